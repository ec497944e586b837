import Derived.Test.YtdpobhcpmpfioaaDoorM27
import Derived.Shelf.SlSortCmp.NoneTotal
import Derived.Sort.OwnSorted
set_option linter.all false
set_option linter.unusedVariables false
set_option linter.unusedSimpArgs false
/-! The order of IDs; what a sorted row holds. -/
namespace Go.Proofs.YtdpobhcpmpfioaaDoor
open Go.RowKit

theorem cb_swap : ∀ a b : List UInt8, Lib.compareBytes b a = - Lib.compareBytes a b
  | [], [] => rfl
  | [], _ :: _ => rfl
  | _ :: _, [] => rfl
  | x :: a, y :: b => by
    unfold Lib.compareBytes
    by_cases h1 : x < y
    · have h2 : ¬ y < x := fun h => UInt8.lt_irrefl _ (UInt8.lt_trans h h1)
      simp [h1, h2]
    · by_cases h2 : y < x
      · simp [h1, h2]
      · simp [h1, h2, cb_swap a b]
theorem cb_zero : ∀ a b : List UInt8, Lib.compareBytes a b = 0 → a = b
  | [], [], _ => rfl
  | [], _ :: _, h => by simp [Lib.compareBytes] at h
  | _ :: _, [], h => by simp [Lib.compareBytes] at h
  | x :: a, y :: b, h => by
    unfold Lib.compareBytes at h
    by_cases h1 : x < y
    · simp [h1] at h
    · by_cases h2 : y < x
      · simp [h1, h2] at h
      · simp only [h1, h2, if_false] at h
        have : x = y := UInt8.le_antisymm (UInt8.not_lt.1 h2) (UInt8.not_lt.1 h1)
        rw [this, cb_zero a b h]
theorem cb_self : ∀ a : List UInt8, Lib.compareBytes a a = 0
  | [] => rfl
  | x :: a => by
    unfold Lib.compareBytes
    simp [UInt8.lt_irrefl, cb_self a]
theorem cb_trans : ∀ a b c : List UInt8, Lib.compareBytes a b < 0 → Lib.compareBytes b c < 0 → Lib.compareBytes a c < 0
  | [], [], c, h, _ => by simp [Lib.compareBytes] at h
  | [], _ :: _, [], _, h => by simp [Lib.compareBytes] at h
  | [], _ :: _, _ :: _, _, _ => by simp [Lib.compareBytes]
  | _ :: _, [], _, h, _ => by simp [Lib.compareBytes] at h
  | _ :: _, _ :: _, [], _, h => by simp [Lib.compareBytes] at h
  | x :: a, y :: b, z :: c, h1, h2 => by
    unfold Lib.compareBytes at h1 h2 ⊢
    by_cases hxy : x < y
    · by_cases hyz : y < z
      · simp [UInt8.lt_trans hxy hyz]
      · by_cases hzy : z < y
        · simp [hyz, hzy] at h2
        · have : y = z := UInt8.le_antisymm (UInt8.not_lt.1 hzy) (UInt8.not_lt.1 hyz)
          subst this
          simp [hxy]
    · by_cases hyx : y < x
      · simp [hxy, hyx] at h1
      · have : x = y := UInt8.le_antisymm (UInt8.not_lt.1 hyx) (UInt8.not_lt.1 hxy)
        subst this
        simp only [hxy, if_false] at h1
        by_cases hyz : x < z
        · simp [hyz]
        · by_cases hzy : z < x
          · simp [hyz, hzy] at h2
          · simp only [hyz, hzy, if_false] at h2 ⊢
            exact cb_trans a b c h1 h2
theorem cmp_zero {x y : ID} (hx : IdOk x) (hy : IdOk y) (h : cmpI x y = 0) : x = y := by
  have h1 := cb_zero _ _ h
  apply Subtype.ext
  apply List.ext_getElem
  · rw [x.2, y.2]
  · intro i h2 h3
    have e : (Lib.bytesOf x.1)[i]? = (Lib.bytesOf y.1)[i]? := by rw [h1]
    simp only [Lib.bytesOf, List.getElem?_map, List.getElem?_eq_getElem h2, List.getElem?_eq_getElem h3, Option.map_some, Option.some.injEq] at e
    have a1 := hx _ (List.getElem_mem h2)
    have a2 := hy _ (List.getElem_mem h3)
    have e2 := congrArg UInt8.toNat e
    simp only [Nat.toUInt8, UInt8.toNat_ofNat'] at e2
    omega
theorem swoI : Go.Sort.SWO (ltOf cmpI) where
  irrefl x := by unfold ltOf cmpI; rw [cb_self]; rfl
  trans x y z h1 h2 := by
    unfold ltOf cmpI at *
    simp only [decide_eq_true_eq] at *
    exact cb_trans _ _ _ h1 h2
  ntrans x y z h1 h2 := by
    unfold ltOf cmpI at *
    simp only [decide_eq_false_iff_not] at *
    intro h3
    rcases Int.lt_trichotomy (Lib.compareBytes (Lib.bytesOf x.1) (Lib.bytesOf y.1)) 0 with h | h | h
    · exact h1 h
    · rw [cb_zero _ _ h] at h3; exact h2 h3
    · have h4 : Lib.compareBytes (Lib.bytesOf y.1) (Lib.bytesOf x.1) < 0 := by rw [cb_swap]; omega
      exact h2 (cb_trans _ _ _ h4 h3)
/-- a sorted list, neighbours alike struck: rising -/
theorem cptN_rising (l : List ID) (hok : ∀ x ∈ l, IdOk x) (hs : l.Pairwise fun a b => ¬ cmpI b a < 0) : ∀ m, m ≤ l.length → (cptN l m).Pairwise fun a b => cmpI a b < 0
  | 0, _ => by simp [cptN]
  | m + 1, hm => by
    have ih := cptN_rising l hok hs m (by omega)
    by_cases h : m ≠ 0 ∧ l[m]? = l[m - 1]?
    · rw [cptN_same l m h.1 h.2]; exact ih
    · rw [cptN_diff l m (by omega) (by by_cases h0 : m = 0; exact .inl h0; exact .inr (fun e => h ⟨h0, e⟩)), List.pairwise_append]
      refine ⟨ih, by simp, fun a ha b hb => ?_⟩
      obtain rfl : b = l[m] := by simpa using hb
      have ha' := (cptN_mem l m (by omega) a).1 ha
      obtain ⟨i, hi, rfl⟩ := List.mem_take_iff_getElem.1 ha'
      have hm0 : m ≠ 0 := by omega
      have hle : ¬ cmpI l[m] l[m - 1] < 0 := List.pairwise_iff_getElem.1 hs (m - 1) m (by omega) (by omega) (by omega)
      have hne : cmpI l[m - 1] l[m] ≠ 0 := fun e => by
        have := cmp_zero (hok _ (List.getElem_mem _)) (hok _ (List.getElem_mem _)) e
        exact h ⟨hm0, by rw [List.getElem?_eq_getElem (by omega), List.getElem?_eq_getElem (by omega), this]⟩
      have hlt : cmpI l[m - 1] l[m] < 0 := by
        have := cb_swap (Lib.bytesOf l[m - 1].1) (Lib.bytesOf l[m].1)
        unfold cmpI at *
        omega
      by_cases hi2 : i = m - 1
      · subst hi2; exact hlt
      · have hle2 : ¬ cmpI l[m - 1] l[i] < 0 := List.pairwise_iff_getElem.1 hs i (m - 1) (by omega) (by omega) (by omega)
        have hsw := cb_swap (Lib.bytesOf l[i].1) (Lib.bytesOf l[m - 1].1)
        by_cases h0 : cmpI l[i] l[m - 1] = 0
        · have := cb_zero _ _ h0
          unfold cmpI at *
          rw [this]; exact hlt
        · refine cb_trans _ _ _ ?_ hlt
          unfold cmpI at *
          omega
instance : Inhabited ID := ⟨⟨List.replicate 32 0, by simp⟩⟩
theorem flatK_ids (l : List ID) : (Go.Sort.flatK idc 32 l.toArray).toList = l.flatMap idc := by
  apply List.ext_getElem?
  intro t
  by_cases ht : t < l.length * 32
  · have hq : t / 32 < l.length := by omega
    have hr : t % 32 < 32 := Nat.mod_lt _ (by decide)
    have h1 := flatMap_get idc_length l (t / 32) l[t / 32] (List.getElem?_eq_getElem hq) (t % 32) ((idc l[t / 32])[t % 32]'(by rw [idc_length]; exact hr)) (List.getElem?_eq_getElem _)
    rw [show t / 32 * 32 + t % 32 = t by omega] at h1
    rw [h1]
    have h2 : (Go.Sort.flatK idc 32 l.toArray)[t]! = (idc l.toArray[t / 32]!)[t % 32]! := Go.Sort.get_flatK idc 32 _ t (by simpa using ht)
    have h3 : t < (Go.Sort.flatK idc 32 l.toArray).size := by simpa using ht
    rw [Array.getElem?_toList, Array.getElem?_eq_getElem h3]
    rw [getElem!_pos _ t h3] at h2
    rw [h2]
    have h4 : l.toArray[t / 32]! = l[t / 32] := by rw [getElem!_pos _ _ (by simpa using hq)]; simp
    rw [h4, getElem!_pos _ _ (by rw [idc_length]; exact hr)]
  · rw [List.getElem?_eq_none (by simp; omega), List.getElem?_eq_none (by rw [flat_len]; omega)]
end Go.Proofs.YtdpobhcpmpfioaaDoor

namespace Go.Proofs
open Go.Shelf Go.RowKit Go.Lib Go.Sort
def sortID_ren : Go.Shelf.Ren := ⟨fun | 6 => 46 | 15 => 61 | 14 => 60 | 28 => 76 | 29 => 77 | 20 => 68 | 21 => 69 | 22 => 70 | 23 => 71 | 24 => 72 | 25 => 73 | 26 => 74 | 27 => 75 | 46 => 80 | 47 => 81 | 48 => 82 | 49 => 83 | 50 => 84 | 57 => 85 | n => n, fun | 22 => 51 | 24 => 24 | 25 => 90 | 3 => 3 | 39 => 35 | 0 => 0 | 53 => 23 | 55 => 22 | 4 => 4 | 46 => 111 | 45 => 110 | 50 => 115 | 5 => 5 | 9 => 9 | 66 => 119 | 70 => 123 | 76 => 125 | 77 => 126 | n => n, fun | n => n⟩
theorem sortID : Go.Proofs.SlLaysF0.n6 Tryd.prog sortID_ren := {
  mixed := by kernel_rfl
  f6 := ⟨Tryd.f46.name, by decide, Tryd.func46.trans (congrArg some (by kernel_rfl))⟩
  f14 := ⟨Tryd.f60.name, by decide, Tryd.func60.trans (congrArg some (by kernel_rfl))⟩
  f15 := Tryd.func61.trans (congrArg some (by kernel_rfl))
  f20 := ⟨Tryd.f68.name, by decide, Tryd.func68.trans (congrArg some (by kernel_rfl))⟩
  f21 := ⟨Tryd.f69.name, by decide, Tryd.func69.trans (congrArg some (by kernel_rfl))⟩
  f22 := ⟨Tryd.f70.name, by decide, Tryd.func70.trans (congrArg some (by kernel_rfl))⟩
  f23 := ⟨Tryd.f71.name, by decide, Tryd.func71.trans (congrArg some (by kernel_rfl))⟩
  f24 := ⟨Tryd.f72.name, by decide, Tryd.func72.trans (congrArg some (by kernel_rfl))⟩
  f25 := ⟨Tryd.f73.name, by decide, Tryd.func73.trans (congrArg some (by kernel_rfl))⟩
  f26 := ⟨Tryd.f74.name, by decide, Tryd.func74.trans (congrArg some (by kernel_rfl))⟩
  f27 := ⟨Tryd.f75.name, by decide, Tryd.func75.trans (congrArg some (by kernel_rfl))⟩
  f28 := Tryd.func76.trans (congrArg some (by kernel_rfl))
  f29 := Tryd.func77.trans (congrArg some (by kernel_rfl))
  f46 := ⟨Tryd.f80.name, by decide, Tryd.func80.trans (congrArg some (by kernel_rfl))⟩
  f47 := Tryd.func81.trans (congrArg some (by kernel_rfl))
  f48 := Tryd.func82.trans (congrArg some (by kernel_rfl))
  f49 := ⟨Tryd.f83.name, by decide, Tryd.func83.trans (congrArg some (by kernel_rfl))⟩
  f50 := ⟨Tryd.f84.name, by decide, Tryd.func84.trans (congrArg some (by kernel_rfl))⟩
  f57 := ⟨Tryd.f85.name, by decide, Tryd.func85.trans (congrArg some (by kernel_rfl))⟩
  t0 := Tryd.underlying0
  a0 := Tryd.isAgg0
  z0 := Tryd.sizeOf0
  v0 := Tryd.zeroValue0
  t3 := Tryd.underlying3
  a3 := Tryd.isAgg3
  z3 := Tryd.sizeOf3
  v3 := Tryd.zeroValue3
  t4 := Tryd.underlying4
  a4 := Tryd.isAgg4
  z4 := Tryd.sizeOf4
  v4 := Tryd.zeroValue4
  t5 := Tryd.underlying5
  a5 := Tryd.isAgg5
  z5 := Tryd.sizeOf5
  v5 := Tryd.zeroValue5
  t9 := Tryd.underlying9
  a9 := Tryd.isAgg9
  z9 := Tryd.sizeOf9
  v9 := Tryd.zeroValue9
  t22 := Tryd.underlying51
  a22 := Tryd.isAgg51
  z22 := Tryd.sizeOf51
  v22 := Tryd.zeroValue51
  t25 := Tryd.underlying90
  a25 := Tryd.isAgg90
  z25 := Tryd.sizeOf90
  v25 := Tryd.zeroValue90
  t39 := Tryd.underlying35
  a39 := Tryd.isAgg35
  z39 := Tryd.sizeOf35
  v39 := Tryd.zeroValue35
  t45 := Tryd.underlying110
  a45 := Tryd.isAgg110
  z45 := Tryd.sizeOf110
  v45 := Tryd.zeroValue110
  t46 := Tryd.underlying111
  a46 := Tryd.isAgg111
  z46 := Tryd.sizeOf111
  v46 := Tryd.zeroValue111
  t50 := Tryd.underlying115
  a50 := Tryd.isAgg115
  z50 := Tryd.sizeOf115
  v50 := Tryd.zeroValue115
  t53 := Tryd.underlying23
  a53 := Tryd.isAgg23
  z53 := Tryd.sizeOf23
  v53 := Tryd.zeroValue23
  t55 := Tryd.underlying22
  a55 := Tryd.isAgg22
  z55 := Tryd.sizeOf22
  v55 := Tryd.zeroValue22
  t66 := Tryd.underlying119
  a66 := Tryd.isAgg119
  z66 := Tryd.sizeOf119
  v66 := Tryd.zeroValue119
  t70 := Tryd.underlying123
  a70 := Tryd.isAgg123
  z70 := Tryd.sizeOf123
  v70 := Tryd.zeroValue123
  t76 := Tryd.underlying125
  a76 := Tryd.isAgg125
  z76 := Tryd.sizeOf125
  v76 := Tryd.zeroValue125
  t77 := Tryd.underlying126
  a77 := Tryd.isAgg126
  z77 := Tryd.sizeOf126
  v77 := Tryd.zeroValue126 }
end Go.Proofs
namespace Go.Proofs.YtdpobhcpmpfioaaDoor
open Go.Shelf Go.RowKit Go.Lib Go.Sort

theorem cmpLays (blk off size : Nat) (w : World) : CmpLays Tryd.prog 47 #[] idc 32 cmpI blk off size w := by
  intro m os dk _ x y
  refine (Compare_ok x y (sortWorldK idc 32 w blk off m dk os)).mono ?_
  rintro e w' ⟨rfl, rfl⟩
  exact ⟨rfl, 1, _, by rw [alloc_eq_grow, alloc_eq_grow, grow_grow]; rfl⟩

theorem Sort_nil (p : Option Addr) (cap : Nat) (fv : Value) (w : World) : Calls Tryd.prog 46 #[.slice p 0 cap, fv] w fun e w' => e = .returned (.tuple #[]) ∧ w' = w :=
  AnyF.slices_SortFunc_none { sortID with } p cap fv w

theorem Sort_ok (base g cap : Nat) (l : List ID) (rest : List Value) (w : World) (hb : HB w g 24 (l.flatMap idc ++ rest)) (hbase : base ≤ g) (hl : l.length ≤ 100000) :
    Calls Tryd.prog 46 #[.slice (some ⟨g, 0, none⟩) l.length cap, .func (.func 47) #[] #[]] w fun e w' => e = .returned (.tuple #[]) ∧ ∃ (l' : List ID) (rest' : List Value), l'.length = l.length ∧ (∀ x, x ∈ l' ↔ x ∈ l) ∧ (l'.Pairwise fun a b => ¬ cmpI b a < 0) ∧
      HB w' g 24 (l'.flatMap idc ++ rest') ∧ RowKit.Below base w w' := by
  have hfl := flatK_ids l
  have hH : HoldsK idc 32 w g 0 l.toArray := by
    intro j hj
    rw [Nat.zero_add]
    have hj' : j < l.length * 32 := by simpa using hj
    refine ⟨hb.cell ?_, hb.frozen j⟩
    have h1 : (l.flatMap idc)[j]? = some (flatK idc 32 l.toArray)[j]! := by
      rw [← hfl, Array.getElem?_toList, Array.getElem?_eq_getElem hj, getElem!_pos _ j hj]
    rw [List.getElem?_append_left (by rw [flat_len]; exact hj')]
    exact h1
  have hlt := hb.lt
  have h := AnyQ.slices_SortFunc sortID 32 Tryd.isAgg24 Tryd.sizeOf24 idc idc_length idc_one cmpI swoI 47 #[] g 0 cap l.toArray w (fun _ _ => rfl) (cmpLays g 0 l.toArray.size w) hH hlt (by simp; omega)
  refine (show Calls Tryd.prog 46 _ w _ from h).mono ?_
  rintro e w' ⟨rfl, d', n, os, ⟨hps, _, hpp⟩, hso, rfl⟩
  have hds : d'.size = l.length := by simpa using hps
  have hperm : d'.toList.Perm l := by
    have e1 : (d'.extract 0 l.toArray.size).toList = d'.toList := by rw [show l.toArray.size = d'.size by simp [hds], Array.extract_size]
    have e2 : (l.toArray.extract 0 l.toArray.size).toList = l := by rw [Array.extract_size]
    rw [e1, e2] at hpp
    exact hpp
  have hfd : (flatK idc 32 d').toList = d'.toList.flatMap idc := by
    have := flatK_ids d'.toList
    rwa [Array.toArray_toList] at this
  have hheap : (grow (putRowK idc 32 (Sort.ahead w n) g 0 d') os).heap[g]? = some (.cells (putCells id 0 (flatK idc 32 d') (l.flatMap idc ++ rest).toArray) 24 (0, 0)) := by
    rw [heap_grow_old _ _ (by simpa [putRowK, putRow, mapBlock, Sort.ahead] using hlt)]
    simp [putRowK, putRow, mapBlock, Sort.ahead, Array.getElem?_modify, hb.hp, onCells]
  refine ⟨rfl, d'.toList, rest, by simpa using hds, fun x => hperm.mem_iff, ?_, ?_, ?_⟩
  · rw [List.pairwise_iff_getElem]
    intro i j hi hj hij
    have := hso i j (Nat.zero_le _) hij (by simp at hj; simp; omega)
    unfold ltOf at this
    have hi' : i < d'.size := by simpa using hi
    have hj' : j < d'.size := by simpa using hj
    rw [getElem!_pos d' i hi', getElem!_pos d' j hj'] at this
    simpa using this
  · show (grow (putRowK idc 32 (Sort.ahead w n) g 0 d') os).heap[g]? = _
    rw [hheap]
    congr 2
    apply Array.toList_inj.1
    apply List.ext_getElem?
    intro t
    rw [← hfd]
    have hsz : (flatK idc 32 d').size = l.length * 32 := by rw [size_flatK, hds]
    by_cases ht : t < (flatK idc 32 d').size
    · rw [List.getElem?_append_left (by simpa using ht)]
      have hb2 : t < (l.flatMap idc ++ rest).length := by rw [List.length_append, flat_len]; omega
      have hx : t < (putCells id 0 (flatK idc 32 d') (l.flatMap idc ++ rest).toArray).size := by simp only [putCells, Array.size_mapIdx, List.size_toArray]; exact hb2
      rw [Array.getElem?_toList, Array.getElem?_eq_getElem hx, Array.getElem?_toList, Array.getElem?_eq_getElem ht]
      simp only [putCells, Array.getElem_mapIdx]
      rw [if_pos ⟨Nat.zero_le _, by omega⟩, Nat.sub_zero, getElem!_pos _ t ht]
      rfl
    · rw [List.getElem?_append_right (by simpa using ht)]
      have hsl : (flatK idc 32 d').toList.length = (l.flatMap idc).length := by rw [flat_len]; simp [hds]
      simp only [hsl]
      simp only [putCells, Array.getElem?_toList, Array.getElem?_mapIdx]
      rw [List.getElem?_toArray, List.getElem?_append_right (by rw [flat_len]; omega)]
      cases hq : rest[t - (l.flatMap idc).length]? with
      | none => simp
      | some v => simp; omega
  · refine ⟨rfl, rfl, rfl, by simp [sortWorldK, grow, putRowK, putRow, mapBlock, Sort.ahead], fun k hk => ?_⟩
    have hkg : g ≠ k := by omega
    have hkw : k < w.heap.size := by omega
    show (grow (putRowK idc 32 (Sort.ahead w n) g 0 d') os).heap[k]? = _
    rw [heap_grow_old _ _ (by simpa [putRowK, putRow, mapBlock, Sort.ahead] using hkw)]
    simp [putRowK, putRow, mapBlock, Sort.ahead, Array.getElem?_modify, hkg]
end Go.Proofs.YtdpobhcpmpfioaaDoor

namespace Go.Proofs.YtdpobhcpmpfioaaDoor
open Go.RowKit

theorem Compact_nil (w : World) : Calls Tryd.prog 49 #[.slice none 0 0] w fun e w' => e = .returned (.slice none 0 0) ∧ Below w.heap.size w w' := by
  go_enter Tryd.func49, Tryd.ntmps49
  go_wp2_with fail
  go_ret
  exact ⟨rfl, Below.refl _ _⟩
set_option maxRecDepth 100000 in
theorem rising_ok : RisingOk := by
  intro v l w h hl hok
  have h1 : ∀ u ∈ l.flatMap idc, u.oneCell' = true := by
    intro u hu
    obtain ⟨x, _, hx⟩ := List.mem_flatMap.1 hu
    exact idc_one x u hx
  have hcl := CloneD v l.length (l.flatMap idc) w h h1 (by omega)
  obtain ⟨a, c, rfl, hc1, hc2⟩ := h.form'
  have HCL := Lib.hid hcl
  have HOK := Lib.hid hok
  clear h h1 hcl hok
  go_enter Tryd.func33, Tryd.ntmps33
  go_wp2_with fail
  refine HCL.out.mono ?_
  rintro e w1 ⟨v1, rfl, ho, hb1⟩
  obtain ⟨_, ⟨rfl, hn⟩ | ⟨g, cap, cur, rfl, hg, hcur, hn1, hn2, hn3, hn4⟩⟩ := ho
  · have hl0 : l = [] := List.eq_nil_of_length_eq_zero hn
    go_wp2_with fail
    refine (Sort_nil none 0 _ w1).mono ?_
    rintro e w2 ⟨rfl, rfl⟩
    go_wp2_with fail
    refine (Compact_nil _).mono ?_
    rintro e w3 ⟨rfl, hb3⟩
    go_wp2_with fail
    refine (ClipD none 0 0 w3 (by omega) (by omega)).mono ?_
    rintro e w4 ⟨rfl, rfl⟩
    go_wp2_with fail
    go_ret
    refine ⟨_, [], rfl, ⟨.nil, fun x => by rw [hl0]⟩, Rd.nil _ _ _, hb1.trans (hb3.mono hb1.size)⟩
  · have hHB : HB w1 g 24 (l.flatMap idc ++ cur.toList.drop (l.length * 32)) := by
      show w1.heap[g]? = _
      rw [hcur, ← hn4, List.take_append_drop]
    have hcm : cap ≤ 9223372036854775807 := by simpa [maxLen] using hn2
    clear hcur hn4
    have hs1 := hb1.size
    go_wp2_with fail
    refine (Sort_ok w.heap.size g cap l _ w1 hHB hg hl).mono ?_
    rintro e w2 ⟨rfl, l', rest', hl', hmem, hsort, hHB2, hb2⟩
    have hb2' : Below w.heap.size w1 w2 := hb2
    have hok' : ∀ x ∈ l', IdOk x := fun x hx => HOK.out x ((hmem x).1 hx)
    have hcp := Compact_ok w.heap.size g cap l' rest' w2 hHB2 hg (by omega) hcm (by omega) hok'
    rw [hl'] at hcp
    have HCP := Lib.hid hcp
    have HR : Hid ((cptN l' l'.length).Pairwise fun a b => cmpI a b < 0) := Lib.hid (cptN_rising l' hok' hsort _ (Nat.le_refl _))
    have HM : Hid (∀ x, x ∈ cptN l' l'.length ↔ x ∈ l) := Lib.hid (fun x => by rw [cptN_mem l' _ (Nat.le_refl _), List.take_length]; exact hmem x)
    have HLE : Hid ((cptN l' l'.length).length ≤ l.length) := Lib.hid (by rw [← hl']; exact cptN_len l' _)
    rw [hl'] at HR HM HLE
    clear hcp hok' hmem hsort hHB hHB2 hb2
    go_wp2_with fail
    refine HCP.out.mono ?_
    rintro e w3 ⟨k, rfl, hk, ⟨cs, hcs, hct⟩, hb3⟩
    have hkl : k ≤ l.length := by rw [hk]; exact HLE.out
    have hkc : k ≤ cap := by omega
    have HK := Lib.hid hk
    clear hk
    go_wp2_with fail
    refine (ClipD (some ⟨g, 0, none⟩) k cap w3 hkc hcm).mono ?_
    rintro e w4 ⟨rfl, rfl⟩
    go_wp2_with fail
    go_ret
    have hrd : Rd w3 24 32 (.slice (some ⟨g, 0, none⟩) k k) (cptN l' l.length).length ((cptN l' l.length).flatMap idc) := by
      rw [← HK.out]
      refine Rd.of_block hcs.hp (.inl rfl) ?_ (by omega) (fun j u hu => ?_)
      · rw [flat_len, ← HK.out]
      · rw [← hct, List.getElem?_take] at hu
        split at hu
        · simpa using hu
        · cases hu
    exact ⟨_, cptN l' l.length, rfl, ⟨HR.out, HM.out⟩, hrd, hb1.trans (hb2'.trans hb3)⟩
end Go.Proofs.YtdpobhcpmpfioaaDoor

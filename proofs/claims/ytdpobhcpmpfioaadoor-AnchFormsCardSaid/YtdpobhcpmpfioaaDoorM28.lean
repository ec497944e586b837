import Derived.Test.YtdpobhcpmpfioaaDoorM27
import Derived.Shelf.SlSortCmp.NoneTotal
import Derived.Sort.OwnSorted
set_option linter.all false
set_option linter.unusedVariables false
set_option linter.unusedSimpArgs false
/-! The order of IDs; what a sorted row holds. -/
namespace Go.Proofs.YtdpobhcpmpfioaaDoor
open Go.RowKit

theorem cb_swap : ∀ a b : List UInt8, Lib.compareBytes b a = - Lib.compareBytes a b
  | [], [] => rfl
  | [], _ :: _ => rfl
  | _ :: _, [] => rfl
  | x :: a, y :: b => by
    unfold Lib.compareBytes
    by_cases h1 : x < y
    · have h2 : ¬ y < x := fun h => UInt8.lt_irrefl _ (UInt8.lt_trans h h1)
      simp [h1, h2]
    · by_cases h2 : y < x
      · simp [h1, h2]
      · simp [h1, h2, cb_swap a b]
theorem cb_zero : ∀ a b : List UInt8, Lib.compareBytes a b = 0 → a = b
  | [], [], _ => rfl
  | [], _ :: _, h => by simp [Lib.compareBytes] at h
  | _ :: _, [], h => by simp [Lib.compareBytes] at h
  | x :: a, y :: b, h => by
    unfold Lib.compareBytes at h
    by_cases h1 : x < y
    · simp [h1] at h
    · by_cases h2 : y < x
      · simp [h1, h2] at h
      · simp only [h1, h2, if_false] at h
        have : x = y := UInt8.le_antisymm (UInt8.not_lt.1 h2) (UInt8.not_lt.1 h1)
        rw [this, cb_zero a b h]
theorem cb_self : ∀ a : List UInt8, Lib.compareBytes a a = 0
  | [] => rfl
  | x :: a => by
    unfold Lib.compareBytes
    simp [UInt8.lt_irrefl, cb_self a]
theorem cb_trans : ∀ a b c : List UInt8, Lib.compareBytes a b < 0 → Lib.compareBytes b c < 0 → Lib.compareBytes a c < 0
  | [], [], c, h, _ => by simp [Lib.compareBytes] at h
  | [], _ :: _, [], _, h => by simp [Lib.compareBytes] at h
  | [], _ :: _, _ :: _, _, _ => by simp [Lib.compareBytes]
  | _ :: _, [], _, h, _ => by simp [Lib.compareBytes] at h
  | _ :: _, _ :: _, [], _, h => by simp [Lib.compareBytes] at h
  | x :: a, y :: b, z :: c, h1, h2 => by
    unfold Lib.compareBytes at h1 h2 ⊢
    by_cases hxy : x < y
    · by_cases hyz : y < z
      · simp [UInt8.lt_trans hxy hyz]
      · by_cases hzy : z < y
        · simp [hyz, hzy] at h2
        · have : y = z := UInt8.le_antisymm (UInt8.not_lt.1 hzy) (UInt8.not_lt.1 hyz)
          subst this
          simp [hxy]
    · by_cases hyx : y < x
      · simp [hxy, hyx] at h1
      · have : x = y := UInt8.le_antisymm (UInt8.not_lt.1 hyx) (UInt8.not_lt.1 hxy)
        subst this
        simp only [hxy, if_false] at h1
        by_cases hyz : x < z
        · simp [hyz]
        · by_cases hzy : z < x
          · simp [hyz, hzy] at h2
          · simp only [hyz, hzy, if_false] at h2 ⊢
            exact cb_trans a b c h1 h2
theorem cmp_zero {x y : ID} (hx : IdOk x) (hy : IdOk y) (h : cmpI x y = 0) : x = y := by
  have h1 := cb_zero _ _ h
  apply Subtype.ext
  apply List.ext_getElem
  · rw [x.2, y.2]
  · intro i h2 h3
    have e : (Lib.bytesOf x.1)[i]? = (Lib.bytesOf y.1)[i]? := by rw [h1]
    simp only [Lib.bytesOf, List.getElem?_map, List.getElem?_eq_getElem h2, List.getElem?_eq_getElem h3, Option.map_some, Option.some.injEq] at e
    have a1 := hx _ (List.getElem_mem h2)
    have a2 := hy _ (List.getElem_mem h3)
    have e2 := congrArg UInt8.toNat e
    simp only [Nat.toUInt8, UInt8.toNat_ofNat'] at e2
    omega
theorem swoI : Go.Sort.SWO (ltOf cmpI) where
  irrefl x := by unfold ltOf cmpI; rw [cb_self]; rfl
  trans x y z h1 h2 := by
    unfold ltOf cmpI at *
    simp only [decide_eq_true_eq] at *
    exact cb_trans _ _ _ h1 h2
  ntrans x y z h1 h2 := by
    unfold ltOf cmpI at *
    simp only [decide_eq_false_iff_not] at *
    intro h3
    rcases Int.lt_trichotomy (Lib.compareBytes (Lib.bytesOf x.1) (Lib.bytesOf y.1)) 0 with h | h | h
    · exact h1 h
    · rw [cb_zero _ _ h] at h3; exact h2 h3
    · have h4 : Lib.compareBytes (Lib.bytesOf y.1) (Lib.bytesOf x.1) < 0 := by rw [cb_swap]; omega
      exact h2 (cb_trans _ _ _ h4 h3)
/-- a sorted list, neighbours alike struck: rising -/
theorem cptN_rising (l : List ID) (hok : ∀ x ∈ l, IdOk x) (hs : l.Pairwise fun a b => ¬ cmpI b a < 0) : ∀ m, m ≤ l.length → (cptN l m).Pairwise fun a b => cmpI a b < 0
  | 0, _ => by simp [cptN]
  | m + 1, hm => by
    have ih := cptN_rising l hok hs m (by omega)
    by_cases h : m ≠ 0 ∧ l[m]? = l[m - 1]?
    · rw [cptN_same l m h.1 h.2]; exact ih
    · rw [cptN_diff l m (by omega) (by by_cases h0 : m = 0; exact .inl h0; exact .inr (fun e => h ⟨h0, e⟩)), List.pairwise_append]
      refine ⟨ih, by simp, fun a ha b hb => ?_⟩
      obtain rfl : b = l[m] := by simpa using hb
      have ha' := (cptN_mem l m (by omega) a).1 ha
      obtain ⟨i, hi, rfl⟩ := List.mem_take_iff_getElem.1 ha'
      have hm0 : m ≠ 0 := by omega
      have hle : ¬ cmpI l[m] l[m - 1] < 0 := List.pairwise_iff_getElem.1 hs (m - 1) m (by omega) (by omega) (by omega)
      have hne : cmpI l[m - 1] l[m] ≠ 0 := fun e => by
        have := cmp_zero (hok _ (List.getElem_mem _)) (hok _ (List.getElem_mem _)) e
        exact h ⟨hm0, by rw [List.getElem?_eq_getElem (by omega), List.getElem?_eq_getElem (by omega), this]⟩
      have hlt : cmpI l[m - 1] l[m] < 0 := by
        have := cb_swap (Lib.bytesOf l[m - 1].1) (Lib.bytesOf l[m].1)
        unfold cmpI at *
        omega
      by_cases hi2 : i = m - 1
      · subst hi2; exact hlt
      · have hle2 : ¬ cmpI l[m - 1] l[i] < 0 := List.pairwise_iff_getElem.1 hs i (m - 1) (by omega) (by omega) (by omega)
        have hsw := cb_swap (Lib.bytesOf l[i].1) (Lib.bytesOf l[m - 1].1)
        by_cases h0 : cmpI l[i] l[m - 1] = 0
        · have := cb_zero _ _ h0
          unfold cmpI at *
          rw [this]; exact hlt
        · refine cb_trans _ _ _ ?_ hlt
          unfold cmpI at *
          omega
instance : Inhabited ID := ⟨⟨List.replicate 32 0, by simp⟩⟩
theorem flatK_ids (l : List ID) : (Go.Sort.flatK idc 32 l.toArray).toList = l.flatMap idc := by
  apply List.ext_getElem?
  intro t
  by_cases ht : t < l.length * 32
  · have hq : t / 32 < l.length := by omega
    have hr : t % 32 < 32 := Nat.mod_lt _ (by decide)
    have h1 := flatMap_get idc_length l (t / 32) l[t / 32] (List.getElem?_eq_getElem hq) (t % 32) ((idc l[t / 32])[t % 32]'(by rw [idc_length]; exact hr)) (List.getElem?_eq_getElem _)
    rw [show t / 32 * 32 + t % 32 = t by omega] at h1
    rw [h1]
    have h2 : (Go.Sort.flatK idc 32 l.toArray)[t]! = (idc l.toArray[t / 32]!)[t % 32]! := Go.Sort.get_flatK idc 32 _ t (by simpa using ht)
    have h3 : t < (Go.Sort.flatK idc 32 l.toArray).size := by simpa using ht
    rw [Array.getElem?_toList, Array.getElem?_eq_getElem h3]
    rw [getElem!_pos _ t h3] at h2
    rw [h2]
    have h4 : l.toArray[t / 32]! = l[t / 32] := by rw [getElem!_pos _ _ (by simpa using hq)]; simp
    rw [h4, getElem!_pos _ _ (by rw [idc_length]; exact hr)]
  · rw [List.getElem?_eq_none (by simp; omega), List.getElem?_eq_none (by rw [flat_len]; omega)]
end Go.Proofs.YtdpobhcpmpfioaaDoor

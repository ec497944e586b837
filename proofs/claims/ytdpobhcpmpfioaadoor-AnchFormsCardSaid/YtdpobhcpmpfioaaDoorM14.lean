import Derived.Test.YtdpobhcpmpfioaaDoorM07
import Derived.Test.YtdpobhcpmpfioaaDoorM13
import Derived.Deep.RegionHeld3
set_option linter.all false
set_option linter.unusedVariables false
set_option linter.unusedSimpArgs false
namespace Go.Proofs.YtdpobhcpmpfioaaDoor
open Go.RowKit
/-- an output below the least of its kind -/
def dustB (o : TOut) : Bool := decide (o.value < leastI (kindI o.script))

set_option maxRecDepth 100000 in
theorem Dust_ok (x : TOut) (s : Value) (w : World) (h : RBy w s x.script) (hl : x.script.length ≤ 1000) :
    Calls Tryd.prog 30 #[.agg (outc x s).toArray] w fun e w' => e = .returned (.bool (dustB x)) ∧ Below w.heap.size w w' := by
  go_enter Tryd.func30, Tryd.ntmps30
  obtain ⟨W, hW, c0, c1, hbW, hsW⟩ : ∃ W, w.alloc (.cells (outc x s).toArray 34) = W ∧ W.cell? ⟨w.heap.size, 0, none⟩ = some (.int .u64 x.value) ∧ W.cell? ⟨w.heap.size, 1, none⟩ = some s ∧ Below w.heap.size w W ∧ w.heap.size < W.heap.size :=
    ⟨_, rfl, cell_new w (outc x s) _ 0 _ rfl, cell_new w (outc x s) _ 1 _ rfl, (Below.refl _ _).alloc (Nat.le_refl _) _, by simp⟩
  have hr := RBy.below h hbW
  clear h
  go_wp2_with fail
  clear hW
  have hb0 : Below W.heap.size W W.drew := (Below.refl _ _).drew
  go_region_held3 (fun w' => w'.cell? ⟨w.heap.size, 0, none⟩ = some (.int .u64 x.value) ∧ w'.cell? ⟨w.heap.size, 1, none⟩ = some s)
    (first | exact ⟨by simpa using c0, by simpa using c1⟩ | exact ⟨by assumption, by assumption⟩)
    (first
      | (go_at_call 43; refine (Kind_ok s x.script W.drew (RBy.below hr hb0) (by omega)).mono ?_; rintro e w2 ⟨rfl, hb2⟩; have e0 := Below.cellv hb2 (w := W.drew) (by simpa using c0) (World.block_lt_of_cell? _ _ c0); have e1 := Below.cellv hb2 (w := W.drew) (by simpa using c1) (World.block_lt_of_cell? _ _ c1); have b2 := hb0.trans (hb2.mono (by simp)))
      | (go_at_call 42; refine (Least_ok (kindI x.script) w2).mono ?_; rintro e w3 ⟨rfl, rfl⟩))
  go_wp2_with fail
  go_ret
  exact ⟨rfl, hbW.trans (b2.mono (by omega))⟩
end Go.Proofs.YtdpobhcpmpfioaaDoor

namespace Go.Proofs.YtdpobhcpmpfioaaDoor
open Go.RowKit
/-- the numbers of the outputs that are dust, among the first k -/
def dustsN (l : List TOut) (k : Nat) : List Int := ((List.range k).filter fun i => (l[i]?).any dustB).map fun (i : Nat) => (i : Int)
def dusts (t : Tx) : List Int := dustsN t.outs t.outs.length
theorem dustsN_succ (l : List TOut) (k : Nat) (h : k < l.length) : dustsN l (k + 1) = dustsN l k ++ (if dustB l[k] then [(k : Int)] else []) := by
  unfold dustsN
  rw [List.range_succ, List.filter_append, List.map_append]
  congr 1
  simp only [List.filter_cons, List.getElem?_eq_getElem h, Option.any_some, List.filter_nil]
  cases dustB l[k] <;> rfl

set_option maxRecDepth 100000 in
theorem Dusts_ok (t : Tx) (i u : Value) (w : World) (hwf : TxWf t) (ho : ROuts w u t.outs) :
    Calls Tryd.prog 14 #[.agg (txc t i u).toArray] w fun e w' => ∃ v, e = .returned v ∧ w'.ownsRow w.heap.size 3 1 v (dusts t).length ((dusts t).map (Value.int .i64)) ∧ Below w.heap.size w w' := by
  obtain ⟨ua, uc, rfl, hu1, hu2⟩ := RSl.form ho
  have n4 := hwf.o2
  have HS := Lib.hid hwf.os
  clear hwf
  go_enter Tryd.func14, Tryd.ntmps14
  obtain ⟨W, hW, c0, c1, c2, c3, hbW, hsW⟩ := box_tx w t i (.slice ua t.outs.length uc)
  have hro := ROuts.below ho hbW
  clear ho c0 c1 c3
  go_wp2_with fail
  clear hW
  obtain ⟨HB, hHB⟩ : ∃ HB, HB = W.heap.size := ⟨_, rfl⟩
  rw [← hHB] at hsW
  have hB1 : HB ≤ W.heap.size := by omega
  have hB2 : W.heap.size ≤ HB := by omega
  clear hHB
  go_loopw [3, 9] (fun v j wr => ∃ k : Nat, k ≤ t.outs.length ∧ j = .int .i64 k ∧ wr.ownsRow HB 3 1 v (dustsN t.outs k).length ((dustsN t.outs k).map (Value.int .i64)) ∧ Below HB W wr) (fun _ j _ => t.outs.length - (intOf j).toNat)
  case atStart => exact ⟨0, Nat.zero_le _, rfl, World.ownsRow_nil _ _ _ _, Below.refl _ _⟩
  case round =>
    obtain ⟨k, hk, rfl, hown, hbel⟩ := hrel
    by_cases hlt : k < t.outs.length
    · obtain ⟨b, off, c', he, _, _, hb, hat⟩ := RSl.at_ hro (by omega)
      obtain ⟨rfl, rfl⟩ : ua = some ⟨b, off, none⟩ ∧ uc = c' := by simpa using he
      obtain ⟨ec, _, ⟨s, rfl, hsx⟩, hr0⟩ := hat k _ (List.getElem?_eq_getElem hlt)
      have hr := range_belowB (B := HB) (w' := wr) (o := off + k * 2) (fun j u hu => hr0 j u hu) hbel (by omega)
      have HX := Lib.hid (HS.out _ (List.getElem_mem hlt))
      have hds := dustsN_succ t.outs k hlt
      have HD := Lib.hid hds
      clear hds
      generalize t.outs[k] = x at hr HX hsx hr0 HD
      have hsz := hbel.size
      have hsl := RBy.sl hsx
      obtain ⟨sa, sc, rfl, hs1, hs2⟩ := Rd.form' hsx
      go_wp2_with (first
        | (with_reducible refine wpList_at 13 ?_; refine ldOut (.tmp 12) _ _ x _ rfl rfl rfl hr ?_)
        | fail)
      have hbI : Below HB W (wr.alloc (.cells (outc x (.slice sa x.script.length sc)).toArray 34)) := hbel.alloc (by omega) _
      have hsxI : RBy (wr.alloc (.cells (outc x (.slice sa x.script.length sc)).toArray 34)) (.slice sa x.script.length sc) x.script := RBy.below hsx (hbI.mono hB2)
      have hownI := own_below hown ((Below.refl _ _).alloc (Nat.le_refl _) (.cells (outc x (.slice sa x.script.length sc)).toArray 34))
      change Calls _ _ _ (wr.alloc (.cells (outc x (.slice sa x.script.length sc)).toArray 34)) _
      generalize wr.alloc (.cells (outc x (.slice sa x.script.length sc)).toArray 34) = WI at *
      refine (Dust_ok x _ WI hsxI (by have := HX.out; omega)).mono ?_
      rintro e w2 ⟨rfl, hb2⟩
      have hown2 := own_below hownI hb2
      have hbI2 := hbI.trans (hb2.mono (Nat.le_trans hB1 hbI.size))
      have hsz2 := hbI2.size
      have hkl : (dustsN t.outs k).length ≤ k := by
        unfold dustsN; rw [List.length_map]; exact Nat.le_trans (List.length_filter_le _ _) (by simp)
      generalize dustsN t.outs k = D at *
      generalize hdl : D.length = dl at *
      cases hx : dustB x with
      | true =>
        rw [hx] at HD
        clear hx
        go_wp2_with (first
          | (with_reducible refine wpList_at 18 ?_; refine apInt (.tmp 16) (.tmp 17) 18 HB u3 dl _ k rfl rfl rfl rfl rfl rfl rfl rfl rfl (Gs.own hown2) (by omega) (by omega) ?_; intro v3 w3 hown3 hg3)
          | fail)
        go_roundw
        case rel =>
          refine ⟨k + 1, by omega, by go_num, ?_, hbI2.trans (hg3.below (by omega))⟩
          rw [HD.out]
          simpa [hdl] using hown3
        case measure => simp [intOf]; omega
      | false =>
        rw [hx] at HD
        clear hx
        go_wp2_with fail
        go_roundw
        case rel =>
          refine ⟨k + 1, by omega, by go_num, ?_, hbI2⟩
          rw [HD.out]
          simpa [hdl] using hown2
        case measure => simp [intOf]; omega
    · obtain ⟨D, HD, hownD⟩ : ∃ D, Hid (dusts t = D) ∧ wr.ownsRow HB 3 1 u3 D.length (D.map (Value.int .i64)) := by
        have e : k = t.outs.length := by omega
        rw [e] at hown
        exact ⟨_, Lib.hid rfl, hown⟩
      clear hown
      go_wp2_with fail
      go_ret
      refine ⟨_, rfl, ?_, hbW.trans (hbel.mono (by omega))⟩
      rw [HD.out]
      exact own_mono hownD (by omega)
end Go.Proofs.YtdpobhcpmpfioaaDoor

import Derived.Test.YtdpobhcpmpfioaaDoorM07
import Derived.Test.YtdpobhcpmpfioaaDoorM11
set_option linter.all false
set_option linter.unusedVariables false
set_option linter.unusedSimpArgs false
namespace Go.Proofs.YtdpobhcpmpfioaaDoor
open Go.RowKit

theorem outN_byte (V : List Int) (i : Nat) : ∀ x ∈ outN V i, 0 ≤ x ∧ x < 256 := by
  induction i with
  | zero =>
    intro x hx
    have : x = 0 := by simpa [outN] using hx
    subst this
    exact ⟨by decide, by decide⟩
  | succ i ih =>
    intro x hx
    rw [outN_succ] at hx
    rcases List.mem_or_eq_of_mem_set hx with h | rfl
    · exact ih x h
    · exact ⟨Int.emod_nonneg _ (by decide), Int.emod_lt_of_pos _ (by decide)⟩
theorem sumL_byte (l : List Int) : ∀ x ∈ sumL l, 0 ≤ x ∧ x < 256 := by rw [sumL_eq]; exact outN_byte _ _
def twiceI (l : List Int) : ID := sumI (sumL l)

set_option maxHeartbeats 1000000 in
set_option maxRecDepth 100000 in
theorem Twice_ok (v : Value) (l : List Int) (w : World) (h : RBy w v l) (hl : l.length ≤ 100000) (hGL : GL w) :
    Calls Tryd.prog 26 #[v] w fun e w' => e = .returned (idv (twiceI l)) ∧ Below w.heap.size w w' := by
  go_enter Tryd.func26, Tryd.ntmps26
  go_wp2_with fail
  change Calls _ _ _ (w.alloc (.cells (kc .u8 (List.replicate 32 0)).toArray 24)) _
  have a2 := WA.new .u8 w 24 (List.replicate 32 0)
  have hbW : Below w.heap.size w (w.alloc (.cells (kc .u8 (List.replicate 32 0)).toArray 24)) := (Below.refl _ _).alloc (Nat.le_refl _) _
  have hsW : w.heap.size < (w.alloc (.cells (kc .u8 (List.replicate 32 0)).toArray 24)).heap.size := by simp
  generalize w.alloc (.cells (kc .u8 (List.replicate 32 0)).toArray 24) = W at *
  refine (Sum_ok v l W (RBy.below h hbW) hl (hGL.below hbW)).mono ?_
  rintro e w1 ⟨rfl, hb1⟩
  have hbw1 := hbW.trans (hb1.mono (by omega))
  have a2 := a2.belowB hb1 hsW
  have hgl1 := hGL.below hbw1
  have hlt1 : w.heap.size < w1.heap.size := by have := hb1.size; omega
  generalize hD : sumI l = D at *
  have HD := Lib.hid hD
  clear hD hb1
  go_wp2_with (first
    | (with_reducible refine wpList_at 3 ?_; refine asID (.tmp 5) 3 D rfl rfl rfl rfl rfl rfl rfl rfl ?_)
    | fail)
  have a3 := WA.new .u8 w1 24 D.1
  have hb2 : Below w.heap.size w (w1.alloc (.cells (kc .u8 D.1).toArray 24)) := hbw1.alloc (by omega) _
  have a2 := a2.alloc (.cells (kc .u8 D.1).toArray 24)
  have hgl2 := hGL.below hb2
  change Calls _ _ _ (w1.alloc (.cells (kc .u8 D.1).toArray 24)) _
  generalize w1.alloc (.cells (kc .u8 D.1).toArray 24) = w2 at *
  have hr : RBy w2 (.slice (some ⟨w1.heap.size, 0, none⟩) 32 32) D.1 := by
    have := Rd.of_block (k := 1) (n := 32) (off := 0) (cells := byc D.1) a3.hp (T := 5) (.inr (by unfold okTag; decide)) (by simp [byc, D.2]) (by omega) (fun j u hu => by simpa [byc] using hu)
    unfold RBy
    rw [D.2]
    exact this
  refine (Sum_ok _ D.1 w2 hr (by rw [D.2]; omega) hgl2).mono ?_
  rintro e w3 ⟨rfl, hb3⟩
  have a2 := a2.below hb3
  have hbw3 := hb2.trans (hb3.mono (by have := hb2.size; omega))
  go_wp2_with (first
    | (with_reducible refine wpList_atS 2 ?_; refine wpList_stA 24 (.tmp 2) (.tmp 7) .u8 _ _ _ (sumI D.1).1 32 rfl rfl rfl a2 rfl szID List.length_replicate (sumI D.1).2 ?_)
    | fail)
  try simp only [Exit.inBlock, Exit.then]
  refine bodyPost_ret (results_A rfl _ w.heap.size .u8 24 (sumI D.1).1 32 5 rfl (a2.setRow _) Tryd.underlying24 szID (sumI D.1).2) rfl ?_
  exact ⟨by rw [← HD.out]; rfl, Below.setRow hbw3 (Nat.le_refl _) _⟩
end Go.Proofs.YtdpobhcpmpfioaaDoor

namespace Go.Proofs.YtdpobhcpmpfioaaDoor
open Go.RowKit

theorem le_len' (n : Int) (k : Nat) : (le n k).length = k := by simp
theorem baseB_len {t : Tx} (h : TxWf t) : (baseB t).length ≤ 30008 := by
  have := bodyB_len h
  simp only [baseB, List.length_append, le_length]; omega
def txid (t : Tx) : ID := twiceI (baseB t)
/-- bytes of a transaction -/
def wgt (t : Tx) : Nat := 4 * (baseB t).length

set_option maxHeartbeats 1000000 in
set_option maxRecDepth 100000 in
theorem Txid_ok (t : Tx) (i u : Value) (w : World) (hwf : TxWf t) (hi : RIns w i t.ins) (ho : ROuts w u t.outs) (hGL : GL w) :
    Calls Tryd.prog 11 #[.agg (txc t i u).toArray] w fun e w' => e = .returned (idv (txid t)) ∧ Below w.heap.size w w' := by
  have HW := Lib.hid hwf
  clear hwf
  obtain ⟨ia, ic, rfl, hi1, hi2⟩ := Rd.form' hi
  obtain ⟨ua, uc, rfl, hu1, hu2⟩ := RSl.form ho
  go_enter Tryd.func11, Tryd.ntmps11
  obtain ⟨W0, hW, c0, c1, c2, c3, hbW0, hsW0⟩ := box_tx w t (.slice ia t.ins.length ic) (.slice ua t.outs.length uc)
  have hri := RIns.below hi hbW0
  have hro := ROuts.below ho hbW0
  have hg := hGL.below hbW0
  clear hi ho hGL
  have c0 := c0; 
  have A2 := WA.new .u8 W0 24 (List.replicate 32 0)
  obtain ⟨W, hW2, a2, hbW, hsW⟩ : ∃ W, W0.alloc (.cells #[.int .u8 0, .int .u8 0, .int .u8 0, .int .u8 0, .int .u8 0, .int .u8 0, .int .u8 0, .int .u8 0, .int .u8 0, .int .u8 0, .int .u8 0, .int .u8 0, .int .u8 0, .int .u8 0, .int .u8 0, .int .u8 0, .int .u8 0, .int .u8 0, .int .u8 0, .int .u8 0, .int .u8 0, .int .u8 0, .int .u8 0, .int .u8 0, .int .u8 0, .int .u8 0, .int .u8 0, .int .u8 0, .int .u8 0, .int .u8 0, .int .u8 0, .int .u8 0] 24) = W ∧ WA .u8 W W0.heap.size 24 (List.replicate 32 0) ∧ Below W0.heap.size W0 W ∧ W0.heap.size < W.heap.size :=
    ⟨_, rfl, A2, (Below.refl _ _).alloc (Nat.le_refl _) _, by simp⟩
  have d0 := Below.cellv hbW c0 hsW0
  have d1 := Below.cellv hbW c1 hsW0
  have d2 := Below.cellv hbW c2 hsW0
  have d3 := Below.cellv hbW c3 hsW0
  have hri := RIns.below hri hbW
  have hro := ROuts.below hro hbW
  have hg := hg.below hbW
  clear c0 c1 c2 c3 A2
  go_wp2_with fail
  clear hW hW2
  refine (Base_ok t _ _ W HW.out hri hro).mono ?_
  rintro e w1 ⟨v1, rfl, ho1, hb1⟩
  have hl1 := baseB_len HW.out
  go_wp2_with fail
  refine (Twice_ok v1 (baseB t) w1 ho1.rby (by omega) (hg.below hb1)).mono ?_
  rintro e w2 ⟨rfl, hb2⟩
  have hb12 := hb1.trans (hb2.mono hb1.size)
  have a2 := a2.belowB hb12 hsW
  have hbw := (hbW0.trans (hbW.mono (by omega))).trans (hb12.mono (by omega))
  go_wp2_with (first
    | (with_reducible refine wpList_atS 2 ?_; refine wpList_stA 24 (.tmp 2) (.tmp 5) .u8 _ _ _ (twiceI (baseB t)).1 32 rfl rfl rfl a2 rfl szID List.length_replicate (twiceI (baseB t)).2 ?_)
    | fail)
  try simp only [Exit.inBlock, Exit.then]
  refine bodyPost_ret (results_A rfl _ W0.heap.size .u8 24 (twiceI (baseB t)).1 32 5 rfl (a2.setRow _) Tryd.underlying24 szID (twiceI (baseB t)).2) rfl ?_
  exact ⟨rfl, Below.setRow hbw (by omega) _⟩
set_option maxHeartbeats 1000000 in
set_option maxRecDepth 100000 in
theorem Wtxid_ok (t : Tx) (i u : Value) (w : World) (hwf : TxWf t) (hi : RIns w i t.ins) (ho : ROuts w u t.outs) (hGL : GL w) :
    Calls Tryd.prog 12 #[.agg (txc t i u).toArray] w fun e w' => e = .returned (idv (txid t)) ∧ Below w.heap.size w w' := by
  have HW := Lib.hid hwf
  clear hwf
  obtain ⟨ia, ic, rfl, hi1, hi2⟩ := Rd.form' hi
  obtain ⟨ua, uc, rfl, hu1, hu2⟩ := RSl.form ho
  go_enter Tryd.func12, Tryd.ntmps12
  obtain ⟨W0, hW, c0, c1, c2, c3, hbW0, hsW0⟩ := box_tx w t (.slice ia t.ins.length ic) (.slice ua t.outs.length uc)
  have hri := RIns.below hi hbW0
  have hro := ROuts.below ho hbW0
  have hg := hGL.below hbW0
  clear hi ho hGL
  have c0 := c0; 
  have A2 := WA.new .u8 W0 24 (List.replicate 32 0)
  obtain ⟨W, hW2, a2, hbW, hsW⟩ : ∃ W, W0.alloc (.cells #[.int .u8 0, .int .u8 0, .int .u8 0, .int .u8 0, .int .u8 0, .int .u8 0, .int .u8 0, .int .u8 0, .int .u8 0, .int .u8 0, .int .u8 0, .int .u8 0, .int .u8 0, .int .u8 0, .int .u8 0, .int .u8 0, .int .u8 0, .int .u8 0, .int .u8 0, .int .u8 0, .int .u8 0, .int .u8 0, .int .u8 0, .int .u8 0, .int .u8 0, .int .u8 0, .int .u8 0, .int .u8 0, .int .u8 0, .int .u8 0, .int .u8 0, .int .u8 0] 24) = W ∧ WA .u8 W W0.heap.size 24 (List.replicate 32 0) ∧ Below W0.heap.size W0 W ∧ W0.heap.size < W.heap.size :=
    ⟨_, rfl, A2, (Below.refl _ _).alloc (Nat.le_refl _) _, by simp⟩
  have d0 := Below.cellv hbW c0 hsW0
  have d1 := Below.cellv hbW c1 hsW0
  have d2 := Below.cellv hbW c2 hsW0
  have d3 := Below.cellv hbW c3 hsW0
  have hri := RIns.below hri hbW
  have hro := ROuts.below hro hbW
  have hg := hg.below hbW
  clear c0 c1 c2 c3 A2
  go_wp2_with fail
  clear hW hW2
  refine (Bytes_ok t _ _ W HW.out hri hro).mono ?_
  rintro e w1 ⟨v1, rfl, ho1, hb1⟩
  have hl1 := baseB_len HW.out
  go_wp2_with fail
  refine (Twice_ok v1 (baseB t) w1 ho1.rby (by omega) (hg.below hb1)).mono ?_
  rintro e w2 ⟨rfl, hb2⟩
  have hb12 := hb1.trans (hb2.mono hb1.size)
  have a2 := a2.belowB hb12 hsW
  have hbw := (hbW0.trans (hbW.mono (by omega))).trans (hb12.mono (by omega))
  go_wp2_with (first
    | (with_reducible refine wpList_atS 2 ?_; refine wpList_stA 24 (.tmp 2) (.tmp 5) .u8 _ _ _ (twiceI (baseB t)).1 32 rfl rfl rfl a2 rfl szID List.length_replicate (twiceI (baseB t)).2 ?_)
    | fail)
  try simp only [Exit.inBlock, Exit.then]
  refine bodyPost_ret (results_A rfl _ W0.heap.size .u8 24 (twiceI (baseB t)).1 32 5 rfl (a2.setRow _) Tryd.underlying24 szID (twiceI (baseB t)).2) rfl ?_
  exact ⟨rfl, Below.setRow hbw (by omega) _⟩
end Go.Proofs.YtdpobhcpmpfioaaDoor

namespace Go.Proofs.YtdpobhcpmpfioaaDoor
open Go.RowKit

set_option maxRecDepth 100000 in
theorem Weight_ok (t : Tx) (i u : Value) (w : World) (hwf : TxWf t) (hi : RIns w i t.ins) (ho : ROuts w u t.outs) :
    Calls Tryd.prog 29 #[.agg (txc t i u).toArray] w fun e w' => e = .returned (.int .i64 (wgt t)) ∧ Below w.heap.size w w' := by
  have HW := Lib.hid hwf
  have hl1 := baseB_len hwf
  clear hwf
  obtain ⟨ia, ic, rfl, hi1, hi2⟩ := Rd.form' hi
  obtain ⟨ua, uc, rfl, hu1, hu2⟩ := RSl.form ho
  go_enter Tryd.func29, Tryd.ntmps29
  obtain ⟨W, hW, c0, c1, c2, c3, hbW, hsW⟩ := box_tx w t (.slice ia t.ins.length ic) (.slice ua t.outs.length uc)
  have hri := RIns.below hi hbW
  have hro := ROuts.below ho hbW
  clear hi ho
  go_wp2_with fail
  clear hW
  have hb0 : Below W.heap.size W W.drew := (Below.refl _ _).drew
  go_region_held3 (fun w' => w'.cell? ⟨w.heap.size, 0, none⟩ = some (.int .u32 t.version) ∧ w'.cell? ⟨w.heap.size, 1, none⟩ = some (.slice ia t.ins.length ic) ∧ w'.cell? ⟨w.heap.size, 2, none⟩ = some (.slice ua t.outs.length uc) ∧ w'.cell? ⟨w.heap.size, 3, none⟩ = some (.int .u32 t.lock) ∧ Below W.heap.size W w')
    (first | exact ⟨by simpa using c0, by simpa using c1, by simpa using c2, by simpa using c3, hb0⟩ | exact ⟨by assumption, by assumption, by assumption, by assumption, by assumption⟩)
    (first
      | (go_at_call 27; refine (Base_ok t _ _ W.drew HW.out (RIns.below hri hb0) (ROuts.below hro hb0)).mono ?_; rintro e w2 ⟨v2, rfl, ho2, hb2⟩; obtain ⟨ga, gc, rfl, hg1, hg2⟩ := Rd.form' ho2.rby; have e0 := Below.cellv hb2 (w := W.drew) (by simpa using c0) (World.block_lt_of_cell? _ _ c0); have e1 := Below.cellv hb2 (w := W.drew) (by simpa using c1) (World.block_lt_of_cell? _ _ c1); have e2 := Below.cellv hb2 (w := W.drew) (by simpa using c2) (World.block_lt_of_cell? _ _ c2); have e3 := Below.cellv hb2 (w := W.drew) (by simpa using c3) (World.block_lt_of_cell? _ _ c3); have b2 := hb0.trans (hb2.mono (by simpa using hb0.size)))
      | (go_at_call 28; refine (Bytes_ok t _ _ w2 HW.out (RIns.below hri b2) (ROuts.below hro b2)).mono ?_; rintro e w3 ⟨v3, rfl, ho3, hb3⟩; obtain ⟨ka, kc, rfl, hk1, hk2⟩ := Rd.form' ho3.rby; have f0 := Below.cellv hb3 e0 (World.block_lt_of_cell? _ _ e0); have f1 := Below.cellv hb3 e1 (World.block_lt_of_cell? _ _ e1); have f2 := Below.cellv hb3 e2 (World.block_lt_of_cell? _ _ e2); have f3 := Below.cellv hb3 e3 (World.block_lt_of_cell? _ _ e3); have b3 := b2.trans (hb3.mono b2.size)))
  go_wp2_with fail
  go_ret
  refine ⟨?_, hbW.trans (b3.mono (by omega))⟩
  show Ending.returned (.int .i64 (IntKind.i64.wrap (IntKind.i64.wrap (3 * ((baseB t).length : Int)) + ((baseB t).length : Int)))) = _
  rw [wrapN (3 * ((baseB t).length : Int)) (3 * (baseB t).length) (by omega) (by omega), wrapN _ (wgt t) (by unfold wgt; omega) (by unfold wgt; omega)]

set_option maxRecDepth 100000 in
theorem Size_ok (t : Tx) (i u : Value) (w : World) (hwf : TxWf t) (hi : RIns w i t.ins) (ho : ROuts w u t.outs) :
    Calls Tryd.prog 13 #[.agg (txc t i u).toArray] w fun e w' => e = .returned (.int .i64 ((wgt t + 3) / 4 : Nat)) ∧ Below w.heap.size w w' := by
  have HW := Lib.hid hwf
  have hl1 := baseB_len hwf
  clear hwf
  obtain ⟨ia, ic, rfl, hi1, hi2⟩ := Rd.form' hi
  obtain ⟨ua, uc, rfl, hu1, hu2⟩ := RSl.form ho
  have hw : wgt t ≤ 200000 := by unfold wgt; omega
  go_enter Tryd.func13, Tryd.ntmps13
  obtain ⟨W, hW, c0, c1, c2, c3, hbW, hsW⟩ := box_tx w t (.slice ia t.ins.length ic) (.slice ua t.outs.length uc)
  have hri := RIns.below hi hbW
  have hro := ROuts.below ho hbW
  clear hi ho
  go_wp2_with fail
  clear hW
  refine (Weight_ok t _ _ W HW.out hri hro).mono ?_
  rintro e w1 ⟨rfl, hb1⟩
  go_wp2_with fail
  go_ret
  refine ⟨?_, hbW.trans (hb1.mono (by omega))⟩
  show Ending.returned (.int .i64 (((wgt t : Int) + 3) / 4)) = _
  rw [show ((wgt t : Int) + 3) / 4 = (((wgt t + 3) / 4 : Nat) : Int) by omega]
end Go.Proofs.YtdpobhcpmpfioaaDoor

namespace Go.Proofs.YtdpobhcpmpfioaaDoor
open Go.RowKit
def zid : ID := ⟨List.replicate 32 0, by simp⟩
def oO (v : Int) : TOut := ⟨v, 0 :: 20 :: List.replicate 20 0⟩
def bitB (r i : Nat) : Bool := r / 2 ^ i % 2 == 1
def outsN (r n : Nat) : List TOut := (List.range n).map fun i => oO (if bitB r i then 293 else 5000)
def aTx (r : Nat) : Tx := ⟨3, [⟨zid, 1, 0⟩], outsN r 3, 0⟩
end Go.Proofs.YtdpobhcpmpfioaaDoor

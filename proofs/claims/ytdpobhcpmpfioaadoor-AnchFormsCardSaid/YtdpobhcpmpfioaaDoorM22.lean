import Derived.Test.YtdpobhcpmpfioaaDoorM06
import Derived.Test.YtdpobhcpmpfioaaDoorM14
set_option linter.all false
set_option linter.unusedVariables false
set_option linter.unusedSimpArgs false
namespace Go.Proofs.YtdpobhcpmpfioaaDoor
open Go.RowKit

def feeI (t : Tx) (fee : Int) : Int := if (dusts t).length = 0 then 0 else if 0 < fee then 18 else 0
set_option maxRecDepth 100000 in
theorem Fee_ok (t : Tx) (i u : Value) (fee : Int) (w : World) (hwf : TxWf t) (ho : ROuts w u t.outs) (hi : Sl i) :
    Calls Tryd.prog 8 #[.agg (txc t i u).toArray, .int .u64 fee] w fun e w' => e = .returned (.int .i64 (feeI t fee)) ∧ Below w.heap.size w w' := by
  have HW := Lib.hid hwf
  clear hwf
  have hsu := ROuts.sl ho
  go_enter Tryd.func8, Tryd.ntmps8
  obtain ⟨W, hW, b1, hbW⟩ : ∃ W, w.alloc (.cells (txc t i u).toArray 32) = W ∧ HB W w.heap.size 32 (txc t i u) ∧ Below w.heap.size w W := ⟨_, rfl, HB.new _ _ _, (Below.refl _ _).alloc (Nat.le_refl _) _⟩
  have hro := ROuts.below ho hbW
  have r1 := b1.range
  clear ho
  go_wp2_with (first
    | (with_reducible refine wpList_at 5 ?_; go_loud (refine ldTx (w := W) (.tmp 2) _ _ t i u rfl rfl rfl r1 ?_))
    | fail)
  clear hW
  refine (Dusts_ok t i u W HW.out hro).mono ?_
  rintro e w1 ⟨v, rfl, hv, hb1⟩
  obtain ⟨a, c, rfl, _, _⟩ := (Rd.own hv).form'
  have hB := hbW.trans (hb1.mono hbW.size)
  clear hv
  have hfe : feeI t fee = if (dusts t).length = 0 then 0 else if 0 < fee then 18 else 0 := rfl
  generalize (dusts t).length = n at *
  have HFE := Lib.hid hfe
  clear hfe
  by_cases hn : n = 0
  · subst hn
    have HZ : Hid (feeI t fee = 0) := Lib.hid (by rw [HFE.out]; simp)
    clear HFE
    go_wp2_with fail
    go_ret
    exact ⟨by rw [HZ.out]; rfl, hB⟩
  · have hg : decide ((n : Int) > 0) = true := decide_eq_true (by omega)
    have HG := Lib.hid hg
    have hn' : (0 : Int) < (n : Int) := by omega
    by_cases hf : 0 < fee
    · have HZ : Hid (feeI t fee = 18) := Lib.hid (by rw [HFE.out]; simp [hn, hf])
      clear HFE
      go_wp2_with fail
      go_ret
      exact ⟨by rw [HZ.out]; rfl, hB⟩
    · have HZ : Hid (feeI t fee = 0) := Lib.hid (by rw [HFE.out]; simp [hn, hf])
      clear HFE
      go_wp2_with fail
      go_ret
      exact ⟨by rw [HZ.out]; rfl, hB⟩
end Go.Proofs.YtdpobhcpmpfioaaDoor

import Derived.Test.YtdpobhcpmpfioaaDoorM12
import Derived.Test.YtdpobhcpmpfioaaDoorM21
import Derived.Test.YtdpobhcpmpfioaaDoorM22
set_option linter.all false
set_option linter.unusedVariables false
set_option linter.unusedSimpArgs false
/-! What the law's two answers are. -/
namespace Go.Proofs.YtdpobhcpmpfioaaDoor
open Go.RowKit
def selN (s n : Nat) : List Int := ((List.range n).filter (bitB s)).map fun (i : Nat) => (i : Int)
theorem selN_succ (s n : Nat) : selN s (n + 1) = selN s n ++ (if bitB s n then [(n : Int)] else []) := by
  unfold selN
  rw [List.range_succ, List.filter_append, List.map_append]
  congr 1
  simp only [List.filter_cons, List.filter_nil]
  split <;> rfl
def bIns (x : ID) (s n : Nat) : List TIn := ⟨zid, 5, 0⟩ :: (selN s n).map fun i => ⟨x, i, 0⟩
def bTx (r s : Nat) (x : ID) : Tx := ⟨3, bIns x s 3, outsN r 1, 0⟩
set_option maxRecDepth 100000 in
theorem dusts_a : ∀ r, r < 8 → dusts (aTx r) = selN r 3 := by decide +kernel
theorem law_fee (r : Nat) (hr : r < 8) (fee : Int) : feeI (aTx r) fee = if 0 < r ∧ 0 < fee then 18 else 0 := by
  unfold feeI
  rw [dusts_a r hr]
  have h : ((selN r 3).length = 0) = (r = 0) := by
    have : ∀ r, r < 8 → (((selN r 3).length = 0) ↔ (r = 0)) := by decide
    exact propext (this r hr)
  by_cases h0 : r = 0
  · rw [if_pos (h ▸ h0), if_neg (by omega)]
  · rw [if_neg (fun e => h0 (h ▸ e))]
    by_cases hf : 0 < fee
    · rw [if_pos hf, if_pos ⟨by omega, hf⟩]
    · rw [if_neg hf, if_neg (fun e => hf e.2)]
theorem law_spends (r s : Nat) (hr : r < 8) (hs : s < 8) (e : Ent) (sp : Pt → Option ID) (he : e.tx = aTx r) (hx : e.id ≠ zid) :
    Pool.spends ⟨[e], sp⟩ (bTx r s e.id) = if 0 < s ∧ 0 < (r &&& (7 - s)) then 26 else 0 := by
  have hfz : Pool.find ⟨[e], sp⟩ zid = none := by simp [Pool.find, hx]
  have hfe : Pool.find ⟨[e], sp⟩ e.id = some e := by simp [Pool.find]
  have hpar : Pool.parents ⟨[e], sp⟩ (bTx r s e.id) = (selN s 3).map fun _ => e.id := by
    unfold Pool.parents bTx bIns
    simp only [List.map_cons, List.map_map]
    rw [List.filter_cons, hfz]
    simp only [Option.isSome_none, Bool.false_eq_true, if_false]
    rw [List.filter_eq_self.2]
    · rfl
    · intro y hy
      obtain ⟨i, _, rfl⟩ := List.mem_map.1 hy
      simp [hfe]
  have hpts : points (bTx r s e.id) = ⟨zid, 5⟩ :: (selN s 3).map fun i => ⟨e.id, i⟩ := by
    simp [points, bTx, bIns, Function.comp_def]
  have hbad : Pool.bad ⟨[e], sp⟩ (bTx r s e.id) e.id = (selN r 3).any fun i => !(selN s 3).contains i := by
    unfold Pool.bad
    rw [hfe]
    show (dusts e.tx).any _ = _
    rw [he, dusts_a r hr]
    congr 1
    funext i
    unfold badI
    rw [hpts]
    have : ((⟨e.id, i⟩ : Pt) ∈ (⟨zid, 5⟩ :: (selN s 3).map fun i => ⟨e.id, i⟩ : List Pt)) ↔ i ∈ selN s 3 := by
      rw [List.mem_cons, List.mem_map]
      constructor
      · rintro (h | ⟨j, hj, h⟩)
        · exact absurd (congrArg Pt.id h) hx
        · have := congrArg Pt.vout h
          simp at this
          rwa [← this]
      · exact fun h => .inr ⟨i, h, rfl⟩
    by_cases hi : i ∈ selN s 3
    · simp [this, hi]
    · simp [this, hi]
  unfold Pool.spends
  rw [hpar, List.any_map]
  have hconst : (selN s 3).any ((Pool.bad ⟨[e], sp⟩ (bTx r s e.id)) ∘ fun _ => e.id) = ((selN s 3).any fun _ => (selN r 3).any fun i => !(selN s 3).contains i) := by
    congr 1
    funext _
    exact hbad
  rw [hconst]
  have : ∀ r, r < 8 → ∀ s, s < 8 → ((selN s 3).any fun _ => (selN r 3).any fun i => !(selN s 3).contains i) = decide (0 < s ∧ 0 < (r &&& (7 - s))) := by decide +kernel
  rw [this r hr s hs]
  simp
end Go.Proofs.YtdpobhcpmpfioaaDoor

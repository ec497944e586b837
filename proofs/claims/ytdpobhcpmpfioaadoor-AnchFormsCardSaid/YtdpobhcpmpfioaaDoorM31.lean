/-
  'lighteragelaw20.AnchForms': for every input (two ints, one uint64) the law returns true and each argument reads behind the call as it read before. Condition: the package variables shas.cubes and shas.squares hold what the program's text lays (the card ties that).
-/
import Derived.Test.YtdpobhcpmpfioaaDoorM29
import Derived.Test.YtdpobhcpmpfioaaDoorM30
import Derived.Test.YtdpobhcpmpfioaaDoorRows
import Derived.Test.YtdpobhcpmpfioaaDoorCards
import Derived.Test.YtdpobhcpmpfioaaDoorTie
import Derived.ProofKit
import Derived.OpenShut
import Derived.LaidMore
import Derived.Lay
import Derived.SevenTiedAt
import Derived.Stop.Joined
set_option linter.all false
set_option linter.unusedVariables false
set_option linter.unusedSimpArgs false
namespace Go.Proofs.YtdpobhcpmpfioaaDoor
open Go.ChangeShapes Go.WideShapes Go.ChangeAt Go.RowKit

/-- an array of words that reads as a datum of words -/
theorem words_of {P : Program} {w : World} {t e : TypeId} {n : Nat} (ht : P.underlying t = some (.array n e)) (he : P.underlying e = some (.int .u32)) (c1 : P.cellsOf e = 1) (cn : P.cellsOf t = n) {cs : List Value} (A : List Int) (hA : A.length = n) {fuel : Nat} {sp : Nat → Bool}
    {p : List MemPlace} (hd : DataW.trod (fun _ => ()) P w 0 sp false fuel t cs = some (.agg (A.map fun x => .lit (.int .u32 x)), p)) : cs = kc .u32 A := by
  obtain ⟨xs, m, _, ex, hlen, hl, hel⟩ := DataW.trod_array ht hd
  have e3 : (xs.map (·.1)) = A.map fun x => .lit (.int .u32 x) := (DataW.agg.inj (Prod.mk.inj ex).1).symm
  rw [cn] at hlen
  apply List.ext_getElem?
  intro r
  by_cases hr : r < n
  · have hE := hel r hr
    rw [c1, Nat.mul_one, List.getElem?_eq_getElem (by omega)] at hE
    obtain ⟨z, e1, e2, _⟩ := DataW.trod_int he hE
    have e4 : (xs.map (·.1))[r]? = (A.map fun x => (DataW.lit (.int .u32 x) : DataW Unit))[r]? := by rw [e3]
    rw [List.getElem?_map, List.getElem?_map, List.getElem?_eq_getElem (by omega : r < xs.length), List.getElem?_eq_getElem (by omega : r < A.length), e2] at e4
    simp only [Option.map_some, Option.some.injEq, DataW.lit.injEq, Lit.int.injEq, true_and] at e4
    have h0 : ((cs.drop r).take 1)[0]? = some (.int .u32 z) := by rw [e1]; rfl
    have h1 : cs[r]? = some (.int .u32 z) := by simpa using h0
    rw [h1, List.getElem?_map, List.getElem?_eq_getElem (by omega : r < A.length), e4]
    rfl
  · rw [List.getElem?_eq_none (by omega), List.getElem?_eq_none (by simp [hA]; omega)]
theorem var_block {P : Program} {w : World} {nm : String} {g : Nat} {cs : Array Value} (hg : P.globalNamed nm = some g) (h : w.var? P nm = some cs) : ∃ t fz, w.heap[g]? = some (.cells cs t fz) := by
  simp only [World.var?, hg, Option.bind_some] at h
  split at h <;> simp_all
theorem gCubes : Tryd.prog.globalNamed "lighterage/shas.cubes" = some 1 := by kernel_rfl
theorem gSquares : Tryd.prog.globalNamed "lighterage/shas.squares" = some 0 := by kernel_rfl
theorem tCubes : (Tryd.prog.globals[1]?).map (·.type) = some 104 := by kernel_rfl
theorem tSquares : (Tryd.prog.globals[0]?).map (·.type) = some 91 := by kernel_rfl
theorem dCubes : (Rows.laid_lighterage_shas_cubes : DataW Unit) = .agg (cubesL.map fun x => .lit (.int .u32 x)) := by kernel_rfl
theorem dSquares : (Rows.laid_lighterage_shas_squares : DataW Unit) = .agg (squaresL.map fun x => .lit (.int .u32 x)) := by kernel_rfl
def laidV : List (String × DataW Unit) := [("lighterage/shas.cubes", Rows.laid_lighterage_shas_cubes), ("lighterage/shas.squares", Rows.laid_lighterage_shas_squares)]
theorem gl_of_laid {W : World} (h : laidMetH Tryd.prog laidV W) : GL W := by
  rw [MakeChecks.laidMetH_plain _ _ _ (by kernel_rfl)] at h
  obtain ⟨ps, ⟨g0, t0, cs0, f0, p0, q0, hg0, ht0, hv0, hd0, ⟨g1, t1, cs1, f1, p1, q1, hg1, ht1, hv1, hd1, hq1, he1⟩, he0⟩, _, hz⟩ := h
  obtain rfl := Option.some.inj (gCubes.symm.trans hg0)
  obtain rfl := Option.some.inj (gSquares.symm.trans hg1)
  obtain rfl := Option.some.inj (tCubes.symm.trans ht0)
  obtain rfl := Option.some.inj (tSquares.symm.trans ht1)
  rw [dCubes] at hd0
  rw [dSquares] at hd1
  have c5 : Tryd.prog.cellsOf 23 = 1 := by kernel_rfl
  have n0 := words_of Tryd.underlying104 Tryd.underlying23 c5 (by kernel_rfl) cubesL cubesL_length hd0
  have n1 := words_of Tryd.underlying91 Tryd.underlying23 c5 (by kernel_rfl) squaresL (by decide) hd1
  obtain ⟨T0, z0, b0⟩ := var_block hg0 hv0
  obtain ⟨T1, z1, b1⟩ := var_block hg1 hv1
  have k0 : cs0.size = 64 := by rw [← Array.length_toList, n0, List.length_map]; exact cubesL_length
  have k1 : cs1.size = 8 := by rw [← Array.length_toList, n1, List.length_map]; rfl
  obtain ⟨⟨c0, u0, a0⟩, _⟩ := hz 1 0 (by subst he0; exact List.mem_append_left _ (List.mem_append_left _ (List.mem_map.2 ⟨0, by simp [k0], rfl⟩)))
  obtain ⟨⟨c1, u1, a1⟩, _⟩ := hz 0 0 (by subst he0 he1; exact List.mem_append_right _ (List.mem_append_left _ (List.mem_append_left _ (List.mem_map.2 ⟨0, by simp [k1], rfl⟩))))
  have s0 := Option.some.inj (b0.symm.trans a0)
  have s1 := Option.some.inj (b1.symm.trans a1)
  simp only [Obj.cells.injEq] at s0 s1
  obtain ⟨rfl, rfl, rfl⟩ := s0
  obtain ⟨rfl, rfl, rfl⟩ := s1
  refine ⟨⟨T0, ?_⟩, ⟨T1, ?_⟩⟩
  · show W.heap[1]? = some (.cells (kc .u32 cubesL).toArray T0 (0, 0))
    rw [b0, ← n0, Array.toArray_toList]
  · show W.heap[0]? = some (.cells (kc .u32 squaresL).toArray T1 (0, 0))
    rw [b1, ← n1, Array.toArray_toList]
theorem ownK : ownKnob Tryd.prog.godebug = none := by kernel_rfl
set_option maxRecDepth 100000 in
theorem lifted (os : Os) (started : os.Started) (H : Type) (enc : TypeId × Value → H) :
    ReturnsInHanded {} Tryd.checked os 3 .any (fun w args => (Rows.anchFormsSpec.pre enc Tryd.prog Tryd.f3 [] false w args ∧ laidMetH Tryd.prog laidV w) ∧ sizedMet enc Tryd.prog Tryd.f3 (OpenSpec.ofChange Rows.anchFormsSpec) false w args)
      (Rows.anchFormsSpec.post enc Tryd.prog Tryd.f3 false true false false) := by
  refine returnsInHanded_of_change_and (C := Tryd.checked) (X := fun w _ => laidMetH Tryd.prog laidV w) (fun _ _ _ hh h => h.of_heap hh) ownK started (by kernel_rfl) Tryd.func3
    (ChangeSpec.witness_shaped (enc := enc) (C := Tryd.checked) (os := os) (X := fun w _ => laidMetH Tryd.prog laidV w) false (World.laidAll Tryd.prog os laidV) #[.int .i64 0, .int .i64 0, .int .u64 0] 8 (World.laidAll_os _ _ _)
      (World.shaped_of_ZipB (by kernel_rfl) (by kernel_rfl)) (by kernel_rfl) (by kernel_rfl) (by kernel_rfl)
      (by rw [MakeChecks.laidMetH_plain _ _ _ (by kernel_rfl)]; exact laidMet_laidAll _ (by kernel_rfl) (by kernel_rfl))) ?_
  intro W base args ds gs before hval0 hW _ _ hL _
  have hval : ∀ (j : Nat) t v, Tryd.f3.params[j]? = some t → args[j]? = some v → Value.okWide Tryd.prog W .any base t v := hval0
  have hW' := hW
  obtain ⟨p, q, hA0, hV, rfl, hfz, hnd⟩ := hW
  have hA : DataW.TrodAll enc Tryd.prog W 0 (fun _ => true) true Tryd.f3.params.toList args.toList ds p := hA0
  rw [Tryd.params3] at hA hval
  obtain ⟨v0, v1, v2, d0, d1, d2, p0, p1, p2, rfl, rfl, rfl, h0, h1, h2⟩ := trodAll_three hA
  obtain ⟨rfl, rfl⟩ := trodVars_none hV
  obtain ⟨D, rfl, rfl, rfl, w0⟩ := open_int Tryd.underlying3 (hval 0 3 v0 rfl rfl) h0
  obtain ⟨s, rfl, rfl, rfl, w1⟩ := open_int Tryd.underlying3 (hval 1 3 v1 rfl rfl) h1
  obtain ⟨fee, rfl, rfl, rfl, w2⟩ := open_int Tryd.underlying22 (hval 2 22 v2 rfl rfl) h2
  clear hA0 hval0
  have hGL := gl_of_laid hL
  simp only [List.append_nil] at hW'
  refine (Law_of awake_ok D s fee W hGL).mono fun e W' ⟨he, hb⟩ => ?_
  subst he
  refine ⟨_, rfl, _, _, _, [], [], [], hW', ?_, ?_, rfl, hb.frame _, fun h => by cases h⟩
  · exact trodAll_mk1 (shut_bool Tryd.underlying4 _)
  · exact trodAll_mk3 (p := []) (p' := []) (p'' := []) (shut_int Tryd.underlying3 w0) (shut_int Tryd.underlying3 w1) (shut_int Tryd.underlying22 w2)
theorem anchForms_said : Rows.AnchFormsSaid :=
  OpenClaim.holds_of_wide 3 Tryd.f3 rfl rfl rfl rfl rfl rfl rfl ⟨rfl, rfl, rfl, rfl, rfl⟩ rfl rfl rfl rfl rfl (by kernel_rfl) Tryd.func3 (by kernel_rfl)
    (of_decide_eq_true (by kernel_rfl)) (by unfold Func.isWrapper; first | (rw [if_pos (by decide +kernel)]; kernel_rfl) | (rw [if_neg (by decide +kernel)]; exact ⟨rfl, rfl⟩))
    (fun os started H enc _ => lifted os started H enc)
theorem anchForms_card : Rows.AnchFormsCardSaid :=
  Claim7.holds_tied_plain_at .later [] [.data, .data] true (true, "c1d2575f67786e414054e76952a1a664266ad444ee888d936c16c7460c66b649") false anchForms_said (fun _ h => by cases h) (by kernel_rfl) (fun _ h => by cases h) anchForms_row_tie rfl ⟨rfl, rfl⟩ (by kernel_rfl) rfl
    (fun f fn hf hfn => by
      obtain rfl : f = 3 := Option.some.inj ((show Tryd.prog.funcNamed "lighterage/lighteragelaw20.AnchForms" = some 3 by kernel_rfl).symm.trans hf) |>.symm
      obtain rfl : fn = Tryd.f3 := (Option.some.inj (Tryd.func3.symm.trans hfn)).symm
      exact ⟨by kernel_rfl, fun j t ht => by
        rw [Tryd.params3] at ht
        have hm : t ∈ [3, 3, 22] := by simpa using Array.mem_of_getElem? ht
        have hall : ([3, 3, 22].all fun u => !Tryd.prog.wantsStandIn u) = true := by kernel_rfl
        exact (show Tryd.prog.wantsStandIn t = false by simpa using List.all_eq_true.1 hall t hm)⟩)
    (by kernel_rfl)
end Go.Proofs.YtdpobhcpmpfioaaDoor

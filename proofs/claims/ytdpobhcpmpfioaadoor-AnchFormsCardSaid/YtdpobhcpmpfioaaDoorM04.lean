import Derived.Test.YtdpobhcpmpfioaaDoorM03
import Derived.Orders
set_option linter.all false
set_option linter.unusedVariables false
set_option linter.unusedSimpArgs false
/-! A region that draws its order, by an invariant. -/
namespace Go.Proofs.YtdpobhcpmpfioaaDoor
open Go.RowKit

theorem countP_lt {p q : Nat → Bool} {i : Nat} : ∀ l : List Nat, (∀ j ∈ l, q j = true → p j = true) → i ∈ l → p i = true → q i = false → l.countP q < l.countP p
  | [], _, hi, _, _ => by simp at hi
  | x :: r, h, hi, hp, hq => by
    have hle : r.countP q ≤ r.countP p := List.countP_mono_left fun j hj => h j (by simp [hj])
    by_cases hx : x = i
    · subst hx
      simp [List.countP_cons, hp, hq]; omega
    · have hi' : i ∈ r := by
        rcases List.mem_cons.1 hi with e | e
        · exact absurd e.symm hx
        · exact e
      have ih := countP_lt r (fun j hj => h j (by simp [hj])) hi' hp hq
      have hxx := h x (by simp)
      simp only [List.countP_cons]
      cases hqx : q x with
      | false => simp; omega
      | true => simp [hxx hqx]; omega

section
variable {P : Program} {ops : Array Oper} {Q : Exit → Act → World → Prop} {md : Region.Mode}
theorem ready_mem {L : Array Bool} {i : Nat} (h : i ∈ Region.ready md ops L) : i < ops.size ∧ L.getD i true = false ∧ ∃ o, ops[i]? = some o ∧ ∀ e ∈ o.after, Region.binds md e = true → L.getD e.on false = true := by
  unfold Region.ready at h
  obtain ⟨h1, h2⟩ := List.mem_filter.1 h
  have h1' : i < ops.size := by simpa using h1
  simp only [Bool.and_eq_true, Bool.not_eq_true'] at h2
  refine ⟨h1', h2.1, ops[i], Array.getElem?_eq_getElem h1', fun e he hb => ?_⟩
  have h3 := h2.2
  rw [Array.getElem?_eq_getElem h1'] at h3
  simp only [Option.map_some, Option.getD_some, Array.all_eq_true_iff_forall_mem] at h3
  have := h3 e he
  simpa [hb] using this

theorem wpAny_inv (I : Array Bool → Act → World → Prop)
    (hs : ∀ L a w i, I L a w → i ∈ Region.ready md ops L → wpOp P ops Q i (fun a' w' => I (L.setIfInBounds i true) a' w') a w)
    (he : ∀ L a w, I L a w → Region.ready md ops L = [] → Q .normal a w)
    (hz : ∀ L a w, I L a w → L.size = ops.size) :
    ∀ fuel L a w, I L a w → (List.range ops.size).countP (fun i => !L.getD i true) ≤ fuel → wpAny P md ops Q fuel L a w
  | 0, L, a, w, hI, hf => by
    have hr : Region.ready md ops L = [] := by
      apply List.eq_nil_iff_forall_not_mem.2
      intro i hi
      obtain ⟨h1, h2, _⟩ := ready_mem hi
      have h3 : (List.range ops.size).countP (fun i => !L.getD i true) = 0 := by omega
      have := List.countP_eq_zero.1 h3 i (by simpa using h1)
      rw [h2] at this
      simp at this
    exact ⟨hr, he L a w hI hr⟩
  | fuel + 1, L, a, w, hI, hf => by
    refine ⟨he L a w hI, fun i hi => ?_⟩
    obtain ⟨h1, h2, _⟩ := ready_mem hi
    have hsz := hz L a w hI
    refine wpOp_mono (fun a' w' hI' => wpAny_inv I hs he hz fuel _ a' w' hI' ?_) (hs L a w i hI hi)
    have hlt := countP_lt (p := fun i => !L.getD i true) (q := fun j => !(L.setIfInBounds i true).getD j true) (i := i) (List.range ops.size) (fun j hj hq => ?_) (by simpa using h1) (by simp [h2]) ?_
    · omega
    · by_cases e : i = j
      · subst e
        simp [h2]
      · simp only [Array.getD_eq_getD_getElem?, Array.getElem?_setIfInBounds] at hq ⊢
        simpa [e] using hq
    · simp [Array.getD_eq_getD_getElem?, Array.getElem?_setIfInBounds, hsz, h1]

theorem region_inv {id : Nat} {a : Act} {w : World} (hm : P.follows .mixedOrders = true) (I : Array Bool → Act → World → Prop)
    (hs : ∀ L a w i, I L a w → i ∈ Region.ready .any ops L → wpOp P ops Q i (fun a' w' => I (L.setIfInBounds i true) a' w') a w)
    (he : ∀ L a w, I L a w → Region.ready .any ops L = [] → Q .normal a w)
    (hz : ∀ L a w, I L a w → L.size = ops.size) (h0 : I (Array.replicate ops.size false) a w.drew) : (Code.region id ops true).wp P Q a w := by
  refine wp_region_any hm (wpAny_inv I hs he hz _ _ _ _ h0 ?_)
  exact Nat.le_trans List.countP_le_length (by simp)

theorem wpOp_of {i : Nat} {o : Oper} {a : Act} {w : World} {K : Act → World → Prop} (ho : ops[i]? = some o) (hg : o.guard = none) (h : o.wp P a w K Q) : wpOp P ops Q i K a w := by
  unfold wpOp
  simp only [ho]
  rw [if_pos (by simp [Region.wanted, hg])]
  exact .inl h

theorem wp_alloc {o : Oper} {a : Act} {w : World} {K : Act → World → Prop} (t : TypeId) (ho : o.op = .alloc t) (n : Nat) (z : Value) (hz : (P.info? t).map (fun i => (i.zero, i.size)) = some (some z, n)) 
    (h : K (a.put o.dst (.pointer (some ⟨w.heap.size, 0, none⟩))) (w.alloc (.cells z.cells t))) : o.wp P a w K Q := by
  obtain ⟨i, hi, hzz⟩ := Option.map_eq_some_iff.1 hz
  simp only [Prod.mk.injEq] at hzz
  have hrun : (Instr.alloc t true (.tuple #[])).run P w = .ok (.pointer (some ⟨w.heap.size, 0, none⟩)) (w.alloc (.cells z.cells t)) := by
    simp [Instr.alloc, zeroValue, typeInfo, hi, hzz.1, newVar, newRow]
  unfold Oper.wp execOp
  simp only [ho, Sem.run_bind, hrun, Result.andThen_ok]
  exact h
theorem wp_move {o : Oper} {a : Act} {w : World} {K : Act → World → Prop} (x : Operand) (ho : o.op = .move x) (h : K (a.put o.dst (a.eval x)) w) : o.wp P a w K Q := by
  unfold Oper.wp execOp
  simp only [ho, Sem.run_bind, Sem.run_pure, Result.andThen_ok]
  exact h
theorem wp_callFn {o : Oper} {a : Act} {w : World} {K : Act → World → Prop} (f : Nat) (x : Operand) (t : TypeId) (ho : o.op = .call { callee := .value (.func f), args := #[x], argTypes := #[t] }) (v : Value) (hx : a.eval x = v)
    (eg : ∀ args w, (callFunc f args).run P w = .ok (.enter f args) w)
    (h : Calls P f #[v] w fun e w' => ∃ r, e = .returned r ∧ K (a.put o.dst r) w') : o.wp P a w K Q := by
  unfold Oper.wp execOp
  simp only [ho]
  have hr : (resolve a.eval { callee := .value (.func f), args := #[x], argTypes := #[t] } o.type).run P w = .ok { target := .fn (.func f) #[], args := #[v] } w := by
    simp [resolve, Act.eval, Deferred.ofValue, ← hx]
  simp only [Sem.run_bind, hr, Result.andThen_ok]
  have hi : (invoke (.fn (.func f) #[]) #[v]).run P w = .ok (.enter f #[v]) w := eg _ _
  rw [hi]
  refine h.mono ?_
  rintro e w' ⟨r, rfl, hk⟩
  exact hk
end
end Go.Proofs.YtdpobhcpmpfioaaDoor

import Derived.Test.YtdpobhcpmpfioaaDoorM04
import Derived.OrdersHeld
import Derived.StillTail
import Derived.Deep.MidRow
set_option linter.all false
set_option linter.unusedVariables false
set_option linter.unusedSimpArgs false
/-! A region that draws its order, walked in the text's order: operations that yield under a condition on the world may be taken first; the others wait for one another; a tail waits for all ahead of it. -/
namespace Go.Proofs.YtdpobhcpmpfioaaDoor
open Go.RowKit

section
variable {P : Program} {ops : Array Oper} {Q : Exit → Act → World → Prop} {md : Region.Mode} {S : World → Prop}

def wpF (P : Program) (md : Region.Mode) (ops : Array Oper) (Q : Exit → Act → World → Prop) (S : World → Prop) (g n : Nat) (K : Act → World → Prop) : Nat → Array Bool → Act → World → Prop
  | 0, listed, a, w => Region.seqB md ops g n listed = true ∧ K a w
  | f + 1, listed, a, w => Region.ready md ops listed ≠ [] ∧ ∀ i ∈ Region.ready md ops listed, i < n ∧ wpOp P ops Q i (fun a' w' => S w' ∧ wpF P md ops Q S g n K f (listed.setIfInBounds i true) a' w') a w

theorem wpAny_of_wpF {g n : Nat} {K : Act → World → Prop} (hK : ∀ listed a w, Region.seqB md ops g n listed = true → K a w → wpAny P md ops Q g listed a w) :
    ∀ (f : Nat) (listed : Array Bool) (a : Act) (w : World), wpF P md ops Q S g n K f listed a w → wpAny P md ops Q (f + g) listed a w
  | 0, listed, a, w, h => by rw [Nat.zero_add]; exact hK _ _ _ h.1 h.2
  | f + 1, listed, a, w, h => by
    rw [show f + 1 + g = (f + g) + 1 by omega]
    exact ⟨fun h0 => absurd h0 h.1, fun i hi => wpOp_mono (fun a' w' h' => wpAny_of_wpF hK f _ a' w' h'.2) (h.2 i hi).2⟩

theorem wpF_first {i g n : Nat} {oi : Oper} {v : Value} {K : Act → World → Prop} (hi : ops[i]? = some oi) (hsel : ∀ (j : Nat) (o : Oper) cs b, ops[j]? = some o → o.op ≠ .select cs b)
    (hQ : ∀ c a w, Q (.panic c) (a.put oi.dst v) w → Q (.panic c) a w) (hin : i < n) (htail : ∀ t, n ≤ t → t < ops.size → Region.waitsFor md ops t i = true) :
    ∀ (f : Nat) (listed : Array Bool) (a : Act) (w : World),
      (∀ j oj, ops[j]? = some oj → j ≠ i → listed.getD j true = false → (∀ e ∈ oj.after, Region.binds md e = true → e.on ≠ i) → oi.apart ops oj = true) →
      i ∈ Region.ready md ops listed → YieldsIf P ops S oi v a → S w →
      wpF P md ops Q S g n K f (listed.setIfInBounds i true) (a.put oi.dst v) w → wpF P md ops Q S g n K (f + 1) listed a w := by
  have hjn : ∀ (listed : Array Bool) j, i ∈ Region.ready md ops listed → j ∈ Region.ready md ops listed → j < n := by
    intro listed j hr hj
    rcases Nat.lt_or_ge j n with h | h
    · exact h
    · exfalso
      obtain ⟨hjun, oj, hoj, hall⟩ := mem_ready.1 hj
      have hjlt : j < ops.size := (Array.getElem?_eq_some_iff.1 hoj).1
      obtain ⟨o', ho', e, he, hb, hon⟩ := Region.waitsFor_spec (htail j h hjlt)
      have : o' = oj := Option.some.inj (ho'.symm.trans hoj)
      subst this
      have h2 := hall e he hb
      rw [hon, getD_both (mem_ready.1 hr).1] at h2
      cases h2
  intro f
  induction f with
  | zero =>
    intro listed a w _ hr hy hS H
    refine ⟨fun h => (by rw [h] at hr; cases hr), fun j hj => ⟨hjn _ _ hr hj, ?_⟩⟩
    by_cases hji : j = i
    · subst hji; exact hy.wpOp hi hS ⟨hS, H⟩
    · have h1 := seqB_ready H.1 j (ready_mono hj hji)
      have h2 := hjn _ _ hr hj
      omega
  | succ f ih =>
    intro listed a w hfree hr hy hS H
    refine ⟨fun h => (by rw [h] at hr; cases hr), fun j hj => ⟨hjn _ _ hr hj, ?_⟩⟩
    by_cases hji : j = i
    · subst hji; exact hy.wpOp hi hS ⟨hS, H⟩
    · have h1 := (H.2 j (ready_mono hj hji)).2
      obtain ⟨hjun, oj, hoj, hall⟩ := mem_ready.1 hj
      have hnot : ∀ e ∈ oj.after, Region.binds md e = true → e.on ≠ i := fun e he hb heq => by
        have h1 := hall e he hb
        rw [heq, getD_both (mem_ready.1 hr).1] at h1
        cases h1
      have h2 := wpOp_putIf hoj (hfree j oj hoj hji hjun hnot) (fun cs b => hsel i oi cs b hi) (fun cs b => hsel j oj cs b hoj) hQ hy h1
      have hfree' : ∀ k ok, ops[k]? = some ok → k ≠ i → (listed.setIfInBounds j true).getD k true = false →
          (∀ e ∈ ok.after, Region.binds md e = true → e.on ≠ i) → oi.apart ops ok = true := fun k ok hk hki hun hno => by
        refine hfree k ok hk hki ?_ hno
        by_cases hjk : j = k
        · subst hjk; exact hjun
        · rw [getD_set_ne true hjk] at hun; exact hun
      refine wpOp_mono (fun a' w' h3 => ⟨h3.2.1, ih (listed.setIfInBounds j true) a' w' hfree' (ready_mono hr (Ne.symm hji)) h3.1 h3.2.1 ?_⟩) h2
      rw [Array.setIfInBounds_comm _ _ hji]
      exact h3.2.2

/-- the check, by the kernel: true: taken first; false: alone in coming up -/
def lexB (md : Region.Mode) (ops : Array Oper) (g n : Nat) : List (Nat × Bool) → Array Bool → Bool
  | [], listed => Region.seqB md ops g n listed
  | (k, true) :: fs, listed => (Region.ready md ops listed).contains k && Region.free md ops listed k && ((List.range ops.size).all fun t => decide (t < n) || Region.waitsFor md ops t k) && decide (k < n) && lexB md ops g n fs (listed.setIfInBounds k true)
  | (k, false) :: fs, listed => decide (Region.ready md ops listed = [k]) && decide (k < n) && lexB md ops g n fs (listed.setIfInBounds k true)

def wpLexI (P : Program) (ops : Array Oper) (Q : Exit → Act → World → Prop) (S : World → Prop) (K : Act → World → Prop) : List (Nat × Bool) → Act → World → Prop
  | [], a, w => K a w
  | (k, true) :: fs, a, w => ∃ o, ops[k]? = some o ∧ ∃ v, YieldsIf P ops S o v a ∧ wpLexI P ops Q S K fs (a.put o.dst v) w
  | (k, false) :: fs, a, w => ∃ o, ops[k]? = some o ∧ o.guard = none ∧ Oper.wp P o a w (fun a' w' => S w' ∧ wpLexI P ops Q S K fs a' w') Q

theorem wpF_lex {g n : Nat} {K : Act → World → Prop} (hsel : Region.noSelect ops = true) (hQ : ∀ c a d v w, Q (.panic c) (Act.put a d v) w → Q (.panic c) a w) :
    ∀ (fs : List (Nat × Bool)) (listed : Array Bool) (a : Act) (w : World), lexB md ops g n fs listed = true → S w → wpLexI P ops Q S K fs a w →
      wpF P md ops Q S g n K fs.length listed a w
  | [], listed, a, w, hB, hS, h => ⟨hB, h⟩
  | (k, true) :: fs, listed, a, w, hB, hS, h => by
    simp only [lexB, Bool.and_eq_true, decide_eq_true_eq] at hB
    obtain ⟨⟨⟨⟨hr, hf⟩, ht⟩, hk⟩, hB'⟩ := hB
    obtain ⟨o, h0, v, hy, hK⟩ := h
    refine wpF_first h0 (Region.noSelect_spec hsel) (fun c a w => hQ c a _ _ w) hk (fun t ht1 ht2 => ?_) fs.length listed a w (Region.free_spec h0 hf) (by simpa using hr) hy hS
      (wpF_lex hsel hQ fs _ _ w hB' hS hK)
    have := List.all_eq_true.1 ht t (List.mem_range.2 ht2)
    simp only [Bool.or_eq_true, decide_eq_true_eq] at this
    rcases this with h | h
    · omega
    · exact h
  | (k, false) :: fs, listed, a, w, hB, hS, h => by
    simp only [lexB, Bool.and_eq_true, decide_eq_true_eq] at hB
    obtain ⟨⟨hr, hk⟩, hB'⟩ := hB
    obtain ⟨o, h0, hg, h⟩ := h
    refine ⟨by rw [hr]; simp, fun i hi => ?_⟩
    rw [hr] at hi
    have hik : i = k := by simpa using hi
    subst hik
    exact ⟨hk, wpOp_mono (fun a' w' h' => ⟨h'.1, wpF_lex hsel hQ fs _ a' w' hB' h'.1 h'.2⟩) (wpOp_of h0 hg h)⟩

theorem region_lexI {id : Nat} {a : Act} {w : World} {l : List Oper} (hm : P.follows .mixedOrders = true) (S : World → Prop) (fs : List (Nat × Bool)) (hQ : ∀ c a d v w, Q (.panic c) (Act.put a d v) w → Q (.panic c) a w)
    (hB : (Region.noSelect l.toArray && decide (fs.length ≤ l.length) && lexB .any l.toArray (l.length - fs.length) fs.length fs (Array.replicate l.length false)) = true) (hS : S w.drew)
    (h : wpLexI P l.toArray Q S (wpList P l.toArray Q (l.drop fs.length)) fs a w.drew) : (Code.region id l.toArray true).wp P Q a w := by
  simp only [Bool.and_eq_true, decide_eq_true_eq] at hB
  obtain ⟨⟨h1, h2⟩, h3⟩ := hB
  refine wp_region_any hm ?_
  have := wpAny_of_wpF (P := P) (md := .any) (ops := l.toArray) (Q := Q) (S := S) (g := l.length - fs.length) (n := fs.length) (K := wpList P l.toArray Q (l.drop fs.length))
    (fun listed a w hs hk => by
      have := wpAny_of_seq (P := P) (md := .any) (ops := l.toArray) (Q' := Q) (l.drop fs.length) fs.length listed a w (fun j => by simp [List.getElem?_drop]) (by rw [List.length_drop]; exact hs) hk
      rwa [List.length_drop] at this) _ _ a w.drew (wpF_lex h1 hQ fs _ a w.drew h3 hS h)
  rw [show fs.length + (l.length - fs.length) = l.length by omega] at this
  simpa using this

/-- the operations in the order given, written out -/
def pick (l : List Oper) : List (Nat × Bool) → List (Bool × Oper)
  | [] => []
  | (k, b) :: r => match l[k]? with | some o => (b, o) :: pick l r | none => pick l r
def wpLex (P : Program) (ops : Array Oper) (Q : Exit → Act → World → Prop) (S : World → Prop) (K : Act → World → Prop) : List (Bool × Oper) → Act → World → Prop
  | [], a, w => K a w
  | (true, o) :: fs, a, w => ∃ v, YieldsIf P ops S o v a ∧ wpLex P ops Q S K fs (a.put o.dst v) w
  | (false, o) :: fs, a, w => o.guard = none ∧ Oper.wp P o a w (fun a' w' => S w' ∧ wpLex P ops Q S K fs a' w') Q
theorem wpLexI_of {l : List Oper} {K : Act → World → Prop} : ∀ (fs : List (Nat × Bool)) (a : Act) (w : World), (fs.all fun x => decide (x.1 < l.length)) = true → wpLex P l.toArray Q S K (pick l fs) a w → wpLexI P l.toArray Q S K fs a w
  | [], a, w, _, h => h
  | (k, b) :: r, a, w, hk, h => by
    simp only [List.all_cons, Bool.and_eq_true, decide_eq_true_eq] at hk
    have h0 : l[k]? = some l[k] := List.getElem?_eq_getElem hk.1
    simp only [pick, h0] at h
    cases b with
    | true =>
      obtain ⟨v, hy, hh⟩ := h
      exact ⟨l[k], by simpa using h0, v, hy, wpLexI_of r _ w hk.2 hh⟩
    | false =>
      refine ⟨l[k], by simpa using h0, h.1, ?_⟩
      exact Oper.wp_mono (fun a' w' h' => ⟨h'.1, wpLexI_of r a' w' hk.2 h'.2⟩) h.2
theorem region_lex {id : Nat} {a : Act} {w : World} {l : List Oper} (hm : P.follows .mixedOrders = true) (S : World → Prop) (fs : List (Nat × Bool)) (hQ : ∀ c a d v w, Q (.panic c) (Act.put a d v) w → Q (.panic c) a w)
    (hB : (Region.noSelect l.toArray && decide (fs.length ≤ l.length) && lexB .any l.toArray (l.length - fs.length) fs.length fs (Array.replicate l.length false)) = true) (hk : (fs.all fun x => decide (x.1 < l.length)) = true) (hS : S w.drew)
    (h : wpLex P l.toArray Q S (wpList P l.toArray Q (l.drop fs.length)) (pick l fs) a w.drew) : (Code.region id l.toArray true).wp P Q a w :=
  region_lexI hm S fs hQ hB hS (wpLexI_of fs a _ hk h)

/-! the steps -/
variable {K : Act → World → Prop} {fs : List (Bool × Oper)} {o : Oper} {a : Act} {w : World}
theorem lexY (v : Value) (hg : o.guard = none) (hy : ∀ w, S w → (execOp a.eval o).run P w = .ok (.value v) w) (h : wpLex P ops Q S K fs (a.put o.dst v) w) : wpLex P ops Q S K ((true, o) :: fs) a w :=
  ⟨v, .inl ⟨by simp [Region.wanted, hg], hy⟩, h⟩
theorem lexMove (x : Operand) (v : Value) (hg : o.guard = none) (ho : o.op = .move x) (hx : a.eval x = v) (h : wpLex P ops Q S K fs (a.put o.dst v) w) : wpLex P ops Q S K ((true, o) :: fs) a w :=
  lexY v hg (fun w _ => by unfold execOp; simp only [ho, Sem.run_bind, Sem.run_pure, Result.andThen_ok, hx]) h
theorem lexAssign (x : Operand) (v : Value) (hg : o.guard = none) (ho : o.op = .assign x) (hx : a.eval x = v) (h : wpLex P ops Q S K fs (a.put o.dst v) w) : wpLex P ops Q S K ((true, o) :: fs) a w :=
  lexY v hg (fun w _ => by unfold execOp; simp only [ho, Sem.run_bind, Sem.run_pure, Result.andThen_ok, hx]) h
theorem lexNil (x : Operand) (b : Addr) (hg : o.guard = none) (ho : o.op = .nilCheck x) (hx : a.eval x = .pointer (some b)) (h : wpLex P ops Q S K fs (a.put o.dst (.pointer (some b))) w) : wpLex P ops Q S K ((true, o) :: fs) a w :=
  lexY _ hg (fun w _ => by unfold execOp; simp only [ho, hx]; rfl) h
theorem lexLoad (ty : TypeId) (x : Operand) (b off : Nat) (cs : List Value) (d : TypeDesc) (hg : o.guard = none) (ho : o.op = .load ty x) (hx : a.eval x = .pointer (some ⟨b, off, none⟩)) (hS : ∀ w, S w → w.rangeAt b off cs)
    (hu : P.underlying ty = some d) (hd : d.isRow = true) (hi : (P.info? ty).map (·.size) = some cs.length) (h : wpLex P ops Q S K fs (a.put o.dst (.agg cs.toArray)) w) : wpLex P ops Q S K ((true, o) :: fs) a w :=
  ⟨_, yieldsIf_load_mid (by simp [Region.wanted, hg]) ty x ho b off hx cs d hS hu hd hi, h⟩
/-- one cell -/
theorem run_load1 (w : World) (b off : Nat) (ty : TypeId) (d : TypeDesc) (v : Value) (hc : w.cell? ⟨b, off, none⟩ = some v) (hu : P.underlying ty = some d) (hd : d.isRow = false) :
    (Instr.loadAt ty (.pointer (some ⟨b, off, none⟩))).run P w = .ok v w := by
  have hagg : (isAgg ty).run P w = .ok false w := by
    unfold isAgg
    rw [Sem.run_bind, run_underlying hu w]
    cases d <;> simp_all
  have hl : (load ⟨b, off, none⟩).run P w = .ok v w := by
    rw [run_load, hc]
  simp only [Instr.loadAt, Instr.sureAddr, Sem.run_bind, Sem.run_pure, Result.andThen_ok, loadVar, hagg]
  simpa using hl
theorem lexLoad1 (ty : TypeId) (x : Operand) (b off : Nat) (v : Value) (d : TypeDesc) (hg : o.guard = none) (ho : o.op = .load ty x) (hx : a.eval x = .pointer (some ⟨b, off, none⟩)) (hS : ∀ w, S w → w.cell? ⟨b, off, none⟩ = some v)
    (hu : P.underlying ty = some d) (hd : d.isRow = false) (h : wpLex P ops Q S K fs (a.put o.dst v) w) : wpLex P ops Q S K ((true, o) :: fs) a w :=
  lexY v hg (fun w hw => by unfold execOp; simp only [ho, hx, Sem.run_bind, run_load1 w b off ty d v (hS w hw) hu hd, Result.andThen_ok, Sem.run_pure]) h
theorem lexField (ty : TypeId) (x : Operand) (n b off off' : Nat) (hg : o.guard = none) (ho : o.op = .fieldAddr ty x n) (hx : a.eval x = .pointer (some ⟨b, off, none⟩))
    (hf : ∀ w, (Instr.fieldAt ty (.pointer (some ⟨b, off, none⟩)) n).run P w = .ok (.pointer (some ⟨b, off', none⟩)) w) (h : wpLex P ops Q S K fs (a.put o.dst (.pointer (some ⟨b, off', none⟩))) w) : wpLex P ops Q S K ((true, o) :: fs) a w :=
  lexY _ hg (fun w _ => by unfold execOp; simp only [ho, hx, Sem.run_bind, hf w, Result.andThen_ok, Sem.run_pure]) h
theorem lexLookup (ty : TypeId) (x y : Operand) (m kk v : Value) (hg : o.guard = none) (ho : o.op = .lookup ty x y true) (hx : a.eval x = m) (hy : a.eval y = kk)
    (hS : ∀ w, S w → (Instr.lookup ty m kk true).run P w = .ok v w) (h : wpLex P ops Q S K fs (a.put o.dst v) w) : wpLex P ops Q S K ((true, o) :: fs) a w :=
  lexY v hg (fun w hw => by unfold execOp; simp only [ho, hx, hy, Sem.run_bind, hS w hw, Result.andThen_ok, Sem.run_pure]) h
theorem lexExtract (x : Operand) (n : Nat) (t : Array Value) (v : Value) (hg : o.guard = none) (ho : o.op = .extract x n) (hx : a.eval x = .tuple t) (hv : t[n]? = some v)
    (h : wpLex P ops Q S K fs (a.put o.dst v) w) : wpLex P ops Q S K ((true, o) :: fs) a w :=
  lexY v hg (fun w hw => by unfold execOp; simp only [ho, hx, Sem.run_bind, Instr.extract, hv, Result.andThen_ok, Sem.run_pure]) h
theorem lexBuild (ty : TypeId) (parts : Array (Nat × Operand)) (vals : List (Nat × Value)) (v : Value) (hg : o.guard = none) (ho : o.op = .build ty parts) (hx : (parts.toList.map fun (i, x) => (i, a.eval x)) = vals)
    (hS : ∀ w, (Instr.build ty vals.toArray).run P w = .ok v w) (h : wpLex P ops Q S K fs (a.put o.dst v) w) : wpLex P ops Q S K ((true, o) :: fs) a w :=
  lexY v hg (fun w hw => by
    have hv' : (parts.map fun (i, x) => (i, a.eval x)) = vals.toArray := by apply Array.toList_inj.1; rw [Array.toList_map]; exact hx
    unfold execOp; simp only [ho, hv', Sem.run_bind, hS w, Result.andThen_ok, Sem.run_pure]) h
theorem lexOp (hg : o.guard = none) (h : Oper.wp P o a w (fun a' w' => S w' ∧ wpLex P ops Q S K fs a' w') Q) : wpLex P ops Q S K ((false, o) :: fs) a w := ⟨hg, h⟩
theorem wp_call {o : Oper} {a : Act} {w : World} {K : Act → World → Prop} (f : Nat) (xs : Array Operand) (ts : Array TypeId) (ho : o.op = .call { callee := .value (.func f), args := xs, argTypes := ts }) (vs : List Value) (hx : xs.toList.map a.eval = vs)
    (eg : ∀ args w, (callFunc f args).run P w = .ok (.enter f args) w)
    (h : Calls P f vs.toArray w fun e w' => ∃ r, e = .returned r ∧ K (a.put o.dst r) w') : o.wp P a w K Q := by
  unfold Oper.wp execOp
  simp only [ho]
  have hr : (resolve a.eval { callee := .value (.func f), args := xs, argTypes := ts } o.type).run P w = .ok { target := .fn (.func f) #[], args := vs.toArray } w := by
    have hx' : xs.map a.eval = vs.toArray := by apply Array.toList_inj.1; rw [Array.toList_map]; exact hx
    simp only [resolve]
    rw [hx']
    simp [Act.eval, Deferred.ofValue]
  simp only [Sem.run_bind, hr, Result.andThen_ok]
  have hi : (invoke (.fn (.func f) #[]) vs.toArray).run P w = .ok (.enter f vs.toArray) w := eg _ _
  rw [hi]
  refine h.mono ?_
  rintro e w' ⟨r, rfl, hk⟩
  exact hk
theorem wp_mapUpdate {o : Oper} {a : Act} {w w' : World} {K : Act → World → Prop} (ty : TypeId) (x y z : Operand) (ho : o.op = .mapUpdate ty x y z) (m kk v : Value) (hx : a.eval x = m) (hy : a.eval y = kk) (hz : a.eval z = v)
    (hr : (Instr.mapUpdate ty m kk v).run P w = .ok () w') (h : K (a.put o.dst undef) w') : o.wp P a w K Q := by
  unfold Oper.wp execOp
  simp only [ho, hx, hy, hz, Sem.run_bind, hr, Result.andThen_ok]
  exact h
end
end Go.Proofs.YtdpobhcpmpfioaaDoor

/-! A region that draws, with one fork: after the first operations either of two comes up. -/
namespace Go.Proofs.YtdpobhcpmpfioaaDoor
open Go.RowKit
section
variable {P : Program} {ops : Array Oper} {Q : Exit → Act → World → Prop} {md : Region.Mode} {S : World → Prop}
def lexP (md : Region.Mode) (ops : Array Oper) (n : Nat) (c : Array Bool → Bool) : List (Nat × Bool) → Array Bool → Bool
  | [], listed => c listed
  | (k, true) :: fs, listed => (Region.ready md ops listed).contains k && Region.free md ops listed k && ((List.range ops.size).all fun t => decide (t < n) || Region.waitsFor md ops t k) && decide (k < n) && lexP md ops n c fs (listed.setIfInBounds k true)
  | (k, false) :: fs, listed => decide (Region.ready md ops listed = [k]) && decide (k < n) && lexP md ops n c fs (listed.setIfInBounds k true)
theorem wpF_pre {g n f0 : Nat} {K K0 : Act → World → Prop} {c : Array Bool → Bool} (hsel : Region.noSelect ops = true) (hQ : ∀ c a d v w, Q (.panic c) (Act.put a d v) w → Q (.panic c) a w)
    (hK : ∀ listed a w, c listed = true → S w → K a w → wpF P md ops Q S g n K0 f0 listed a w) :
    ∀ (fs : List (Nat × Bool)) (listed : Array Bool) (a : Act) (w : World), lexP md ops n c fs listed = true → S w → wpLexI P ops Q S K fs a w → wpF P md ops Q S g n K0 (fs.length + f0) listed a w
  | [], listed, a, w, hB, hS, h => by simpa using hK listed a w hB hS h
  | (k, true) :: fs, listed, a, w, hB, hS, h => by
    simp only [lexP, Bool.and_eq_true, decide_eq_true_eq] at hB
    obtain ⟨⟨⟨⟨hr, hf⟩, ht⟩, hk⟩, hB'⟩ := hB
    obtain ⟨o, h0, v, hy, hh⟩ := h
    rw [List.length_cons, show fs.length + 1 + f0 = (fs.length + f0) + 1 by omega]
    refine wpF_first h0 (Region.noSelect_spec hsel) (fun c a w => hQ c a _ _ w) hk (fun t ht1 ht2 => ?_) (fs.length + f0) listed a w (Region.free_spec h0 hf) (by simpa using hr) hy hS
      (wpF_pre hsel hQ hK fs _ _ w hB' hS hh)
    have := List.all_eq_true.1 ht t (List.mem_range.2 ht2)
    simp only [Bool.or_eq_true, decide_eq_true_eq] at this
    rcases this with h | h
    · omega
    · exact h
  | (k, false) :: fs, listed, a, w, hB, hS, h => by
    simp only [lexP, Bool.and_eq_true, decide_eq_true_eq] at hB
    obtain ⟨⟨hr, hk⟩, hB'⟩ := hB
    obtain ⟨o, h0, hg, h⟩ := h
    rw [List.length_cons, show fs.length + 1 + f0 = (fs.length + f0) + 1 by omega]
    refine ⟨by rw [hr]; simp, fun i hi => ?_⟩
    rw [hr] at hi
    have hik : i = k := by simpa using hi
    subst hik
    exact ⟨hk, wpOp_mono (fun a' w' h' => ⟨h'.1, wpF_pre hsel hQ hK fs _ a' w' hB' h'.1 h'.2⟩) (wpOp_of h0 hg h)⟩
/-- either of two comes up -/
def forkB (md : Region.Mode) (ops : Array Oper) (g n i j : Nat) (fi fj : List (Nat × Bool)) (listed : Array Bool) : Bool :=
  decide (Region.ready md ops listed = [i, j]) && decide (i < n) && decide (j < n) && lexB md ops g n fi (listed.setIfInBounds i true) && lexB md ops g n fj (listed.setIfInBounds j true)
def one (P : Program) (l : List Oper) (Q : Exit → Act → World → Prop) (S : World → Prop) (K : Act → World → Prop) (i : Nat) (fi : List (Nat × Bool)) (a : Act) (w : World) : Prop :=
  match l[i]? with | some o => o.guard = none ∧ Oper.wp P o a w (fun a' w' => S w' ∧ wpLex P l.toArray Q S K (pick l fi) a' w') Q | none => False
theorem region_fork {id : Nat} {a : Act} {w : World} {l : List Oper} (hm : P.follows .mixedOrders = true) (S : World → Prop) (fs : List (Nat × Bool)) (i j : Nat) (fi fj : List (Nat × Bool)) (hQ : ∀ c a d v w, Q (.panic c) (Act.put a d v) w → Q (.panic c) a w)
    (hlen : fi.length = fj.length) (hn : fs.length + (fi.length + 1) ≤ l.length)
    (hB : (Region.noSelect l.toArray && lexP .any l.toArray (fs.length + (fi.length + 1)) (forkB .any l.toArray (l.length - (fs.length + (fi.length + 1))) (fs.length + (fi.length + 1)) i j fi fj) fs (Array.replicate l.length false)) = true)
    (hk : ((fs ++ fi ++ fj).all fun x => decide (x.1 < l.length)) = true) (hS : S w.drew)
    (h : wpLex P l.toArray Q S (fun a w => one P l Q S (wpList P l.toArray Q (l.drop (fs.length + (fi.length + 1)))) i fi a w ∧ one P l Q S (wpList P l.toArray Q (l.drop (fs.length + (fi.length + 1)))) j fj a w) (pick l fs) a w.drew) : (Code.region id l.toArray true).wp P Q a w := by
  simp only [Bool.and_eq_true] at hB
  obtain ⟨h1, h3⟩ := hB
  simp only [List.all_append, Bool.and_eq_true] at hk
  obtain ⟨⟨k1, k2⟩, k3⟩ := hk
  refine wp_region_any hm ?_
  have hpre := wpF_pre (P := P) (md := .any) (ops := l.toArray) (Q := Q) (S := S) (g := l.length - (fs.length + (fi.length + 1))) (n := fs.length + (fi.length + 1)) (f0 := fi.length + 1)
    (K0 := wpList P l.toArray Q (l.drop (fs.length + (fi.length + 1)))) (c := forkB .any l.toArray (l.length - (fs.length + (fi.length + 1))) (fs.length + (fi.length + 1)) i j fi fj) h1 hQ
    (fun listed a w hc hS' hK => by
      simp only [forkB, Bool.and_eq_true, decide_eq_true_eq] at hc
      obtain ⟨⟨⟨⟨hr, hi⟩, hj⟩, hbi⟩, hbj⟩ := hc
      obtain ⟨hKi, hKj⟩ := hK
      refine ⟨by rw [hr]; simp, fun x hx => ?_⟩
      rw [hr] at hx
      have hx' : x = i ∨ x = j := by simpa using hx
      rcases hx' with rfl | rfl
      · refine ⟨hi, ?_⟩
        unfold one at hKi
        cases ho : l[x]? with
        | none => rw [ho] at hKi; exact hKi.elim
        | some o =>
          rw [ho] at hKi
          exact wpOp_mono (fun a' w' h' => ⟨h'.1, wpF_lex h1 hQ fi _ a' w' hbi h'.1 (wpLexI_of fi a' w' k2 h'.2)⟩) (wpOp_of (by simpa using ho) hKi.1 hKi.2)
      · refine ⟨hj, ?_⟩
        unfold one at hKj
        cases ho : l[x]? with
        | none => rw [ho] at hKj; exact hKj.elim
        | some o =>
          rw [ho] at hKj
          rw [hlen]
          rw [hlen] at hbj hKj
          exact wpOp_mono (fun a' w' h' => ⟨h'.1, wpF_lex h1 hQ fj _ a' w' hbj h'.1 (wpLexI_of fj a' w' k3 h'.2)⟩) (wpOp_of (by simpa using ho) hKj.1 hKj.2))
    fs _ a w.drew h3 hS (wpLexI_of fs a _ k1 h)
  have := wpAny_of_wpF (P := P) (md := .any) (ops := l.toArray) (Q := Q) (S := S) (g := l.length - (fs.length + (fi.length + 1))) (n := fs.length + (fi.length + 1)) (K := wpList P l.toArray Q (l.drop (fs.length + (fi.length + 1))))
    (fun listed a w hs hk => by
      have := wpAny_of_seq (P := P) (md := .any) (ops := l.toArray) (Q' := Q) (l.drop (fs.length + (fi.length + 1))) (fs.length + (fi.length + 1)) listed a w (fun j => by simp [List.getElem?_drop]) (by rw [List.length_drop]; exact hs) hk
      rwa [List.length_drop] at this) _ _ a w.drew hpre
  rw [show fs.length + (fi.length + 1) + (l.length - (fs.length + (fi.length + 1))) = l.length by omega] at this
  simpa using this
end
end Go.Proofs.YtdpobhcpmpfioaaDoor

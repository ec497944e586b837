import Derived.Test.YtdpobhcpmpfioaaDoorM01
import Derived.Deep.MidRow
import Derived.Deep.WholeRow
import Derived.Great.BuildSlice
set_option linter.all false
set_option linter.unusedVariables false
set_option linter.unusedSimpArgs false
namespace Go.Proofs.YtdpobhcpmpfioaaDoor
open Go.RowKit
variable {P : Program} {ops : Array Oper} {rest : List Oper} {o : Oper} {a : Act} {w : World} {Q : Exit → Act → World → Prop}

/-- guards for the arms of a walk: the next operation writes slot d; is a store through slot x -/
theorem wpList_at (d : Nat) {op : Op} {ty : TypeId} {ps : String} {af : Array Edge} {gd : Option (Nat × Bool)} (h : wpList P ops Q (⟨some d, op, ty, ps, af, gd⟩ :: rest) a w) : wpList P ops Q (⟨some d, op, ty, ps, af, gd⟩ :: rest) a w := h
theorem wpList_atS (x : Nat) {t : TypeId} {v : Operand} {ty : TypeId} {ps : String} {af : Array Edge} {gd : Option (Nat × Bool)} (h : wpList P ops Q (⟨none, .store t (.tmp x) v, ty, ps, af, gd⟩ :: rest) a w) : wpList P ops Q (⟨none, .store t (.tmp x) v, ty, ps, af, gd⟩ :: rest) a w := h

/-- a struct or array is built: what it comes to is known -/
theorem wpList_buildV (hg : o.guard = none) (t : TypeId) (parts : Array (Nat × Operand)) (ho : o.op = .build t parts) (vals : List (Nat × Value)) (hv : (parts.toList.map fun (i, x) => (i, a.eval x)) = vals)
    (v : Value) (hrun : (Instr.build t vals.toArray).run P w = .ok v w) (h : wpList P ops Q rest (a.put o.dst v) w) : wpList P ops Q (o :: rest) a w :=
  wpList_plain hg fun _ hK => by
    have hv' : (parts.map fun (i, x) => (i, a.eval x)) = vals.toArray := by apply Array.toList_inj.1; rw [Array.toList_map]; exact hv
    unfold Oper.wp execOp
    simp only [ho, hv', Sem.run_bind, hrun, Result.andThen_ok]
    exact hK _ _ h

/-- a value of many cells into the block that was made last -/
theorem wpList_storeNew {w : World} (hg : o.guard = none) (t : TypeId) (x y : Operand) (ho : o.op = .store t x y) (c c' : Array Value) (hx : a.eval x = .pointer (some ⟨w.heap.size, 0, none⟩)) (hy : a.eval y = .agg c')
    (hi : (P.info? t).map (·.size) = some c'.size) (hc : c.size = c'.size) (h1 : ∀ v ∈ c', v.oneCell' = true)
    (h : wpList P ops Q rest (a.put o.dst undef) (w.alloc (.cells c' t))) : wpList P ops Q (o :: rest) a (w.alloc (.cells c t)) :=
  wpList_plain hg fun _ hK => by
    unfold Oper.wp execOp
    simp only [ho, hx, hy, Sem.run_bind, run_storeAt_new (P := P) w t c c' hi hc (Array.all_eq_true_iff_forall_mem.2 h1), Result.andThen_ok]
    exact hK _ _ h

/-- max, min of two whole numbers -/
theorem wpList_max2 (s x : Operand) (ts : Array TypeId) (kk k2 : IntKind) (p q r : Int) (hg : o.guard = none) (ho : o.op = .call { callee := .builtin .max, args := #[s, x], argTypes := ts })
    (hs : a.eval s = .int kk p) (hx : a.eval x = .int k2 q) (hr : (if q > p then q else p) = r) (h : wpList P ops Q rest (a.put o.dst (.int kk r)) w) : wpList P ops Q (o :: rest) a w :=
  wpList_plain hg fun _ hK => by
    have hrun : (Builtin.max_ ts o.type #[.int kk p, .int k2 q]).run P w = .ok (.int kk r) w := by simp [Builtin.max_, Builtin.max2, ← hr]
    unfold Oper.wp execOp
    simp only [ho, resolve, invoke, builtin, Sem.run_bind, Sem.run_pure, Result.andThen_ok, List.map_toArray, List.map_cons, List.map_nil, hs, hx, hrun]
    exact hK _ _ h
theorem wpList_min2 (s x : Operand) (ts : Array TypeId) (kk k2 : IntKind) (p q r : Int) (hg : o.guard = none) (ho : o.op = .call { callee := .builtin .min, args := #[s, x], argTypes := ts })
    (hs : a.eval s = .int kk p) (hx : a.eval x = .int k2 q) (hr : (if q < p then q else p) = r) (h : wpList P ops Q rest (a.put o.dst (.int kk r)) w) : wpList P ops Q (o :: rest) a w :=
  wpList_plain hg fun _ hK => by
    have hrun : (Builtin.min_ ts o.type #[.int kk p, .int k2 q]).run P w = .ok (.int kk r) w := by simp [Builtin.min_, Builtin.min2, ← hr]
    unfold Oper.wp execOp
    simp only [ho, resolve, invoke, builtin, Sem.run_bind, Sem.run_pure, Result.andThen_ok, List.map_toArray, List.map_cons, List.map_nil, hs, hx, hrun]
    exact hK _ _ h
/-- a comparison whose outcome is known -/
theorem wpList_lss (x y : Operand) (t t2 : TypeId) (k : IntKind) (p q : Int) (r : Bool) (hg : o.guard = none) (ho : o.op = .binOp .lss t x y t2) (hx : a.eval x = .int k p) (hy : a.eval y = .int k q)
    (hr : decide (p < q) = r) (h : wpList P ops Q rest (a.put o.dst (.bool r)) w) : wpList P ops Q (o :: rest) a w :=
  wpList_plain hg fun _ hK => by
    have hrun : (binOp .lss t (.int k p) (.int k q)).run P w = .ok (.bool r) w := by simp [go_sem, ← hr]
    unfold Oper.wp execOp
    simp only [ho, hx, hy, Sem.run_bind]
    simp [eqGuard, hrun, Oper.upon, Result.andThen]
    exact hK _ _ h
/-- a whole number is turned into another kind that it fits -/
theorem wpList_conv (s : Operand) (st dt : TypeId) (k1 k2 : IntKind) (p : Int) (hg : o.guard = none) (ho : o.op = .convert st dt s) (hs : a.eval s = .int k1 p)
    (hrun : (convert st dt (.int k1 p)).run P w = .ok (.int k2 p) w) (h : wpList P ops Q rest (a.put o.dst (.int k2 p)) w) : wpList P ops Q (o :: rest) a w :=
  wpList_plain hg fun _ hK => by
    unfold Oper.wp execOp
    simp only [ho, hs, Sem.run_bind, hrun, Result.andThen_ok]
    exact hK _ _ h

theorem fold_whole (new : List Value) (Z : Array Value) (h : Z.size = new.length) : Array.foldl (fun (cs : Array Value) (x : Value × Nat) => cs.setIfInBounds x.2 x.1) Z new.toArray.zipIdx = new.toArray := by
  have g := Great.foldl_set 0 new 0 Z
  simp only [Nat.zero_add] at g
  have e : Array.foldl (fun (cs : Array Value) (x : Value × Nat) => cs.setIfInBounds x.2 x.1) Z new.toArray.zipIdx = (new.zipIdx 0).foldl (fun cs (x : Value × Nat) => cs.setIfInBounds x.2 x.1) Z := by
    rw [← Array.foldl_toList, Array.toList_zipIdx]
  rw [e]
  apply Array.ext_getElem?
  intro k
  rw [g.2 k]
  by_cases hk : k < new.length
  · rw [if_pos ⟨by omega, by omega, by omega⟩]
    simp
  · rw [if_neg (by omega)]
    simp [show Z.size ≤ k by omega, show new.length ≤ k by omega]

/-- 'x := v' where x is a variable in memory: a new block that holds v -/
theorem wpList_allocStore {o1 o2 : Oper} (hg1 : o1.guard = none) (hg2 : o2.guard = none) (t : TypeId) (y : Operand) (d1 : Nat) (hd1 : o1.dst = some d1) (ho1 : o1.op = .alloc t) (ho2 : o2.op = .store t (.tmp d1) y) (hd2 : o2.dst = none)
    (hsz : Nat.blt d1 a.tmps.size = true) (c : List Value) (hy : (a.put (some d1) (.pointer (some ⟨w.heap.size, 0, none⟩))).eval y = .agg c.toArray)
    (n : Nat) (hinfo : (P.info? t).map (fun i => (i.zero.map (·.cells.size), i.size)) = some (some n, n)) (hc : c.length = n) (h1 : ∀ v ∈ c, v.oneCell' = true)
    (h : wpList P ops Q rest (a.put (some d1) (.pointer (some ⟨w.heap.size, 0, none⟩))) (w.alloc (.cells c.toArray t))) : wpList P ops Q (o1 :: o2 :: rest) a w := by
  obtain ⟨i, hi, hzz⟩ := Option.map_eq_some_iff.1 hinfo
  simp only [Prod.mk.injEq] at hzz
  obtain ⟨z, hz, hzn⟩ := Option.map_eq_some_iff.1 hzz.1
  refine wpList_plain hg1 fun K hK => ?_
  have hrun : (Instr.alloc t true (.tuple #[])).run P w = .ok (.pointer (some ⟨w.heap.size, 0, none⟩)) (w.alloc (.cells z.cells t)) := by
    simp [Instr.alloc, zeroValue, typeInfo, hi, hz, newVar, newRow]
  unfold Oper.wp execOp
  simp only [ho1, Sem.run_bind, hrun, Result.andThen_ok]
  refine hK _ _ ?_
  rw [hd1]
  have hd : d1 < a.tmps.size := Nat.le_of_ble_eq_true hsz
  refine wpList_storeNew hg2 t (.tmp d1) y ho2 z.cells c.toArray (by simp [Act.eval, Act.put, hd]) hy (by simp [hi, hc, hzz.2]) (by simp [hc, hzn]) (fun v hv => h1 v (by simpa using hv)) ?_
  rw [hd2]
  exact h

theorem run_append_core (ty t e : TypeId)
    (base : Nat) (z : Value) (size bytes : Nat) (ht : P.underlying t = some (.slice e)) (hinfo : (P.info? e).map (fun i => (i.zero, i.size, i.bytes)) = some (some z, size, bytes))
    (hzs : z.cells.size = size) (hsz : 0 < size)
    (v : Value) (n : Nat) (xs : List Value) (hown : Gs w base e size v n xs)
    (ad : Addr) (m c : Nat) (news : List Value) (hn : news.length = m * size) (hc : ∀ j u, news[j]? = some u → w.cell? (ad.add j) = some u) (h1 : ∀ u ∈ news, u.oneCell' = true)
    (h63 : n + m ≤ 1000000000) (hby : bytes ≤ 10000) (hbase : base ≤ w.heap.size) (hm : 0 < m) :
    ∃ v' w', (Builtin.append_ #[t, t] ty #[v, .slice (some ad) m c]).run P w = .ok v' w' ∧ w'.ownsRow base e size v' (n + m) (xs ++ news) ∧ Grew base v w w' := by
  obtain ⟨i, hi, hz, hsize, hbytes⟩ := info_parts hinfo
  have hb : (n + m) * bytes ≤ 1000000000 * 10000 := Nat.mul_le_mul h63 hby
  rcases hown with hown | ⟨hrd, ao, rfl⟩
  · obtain ⟨v', w', hr, h2, h3, _⟩ := run_append_own (P := P) w base t ty e i z size bytes ht hi hz hsize hbytes hzs hsz v n xs hown ad m c news hn hc h1 (by simp only [maxLen]; omega) (by omega) hbase
    exact ⟨v', w', hr, h2, _, h3, fun k hk => ⟨own_base hown k hk, hk⟩⟩
  · cases ao with
    | some b =>
      obtain ⟨v', w', hr, h2, h3⟩ := run_append_arg_grows (P := P) w t ty e i z size bytes ht hi hz hsize hbytes hzs hsz b n n xs hrd.1 hrd.news ad m c news hn hc (by omega) (by simp only [maxLen]; omega) (by omega)
      exact ⟨v', w', hr, own_mono h2 hbase, none, h3, fun k hk => by cases hk⟩
    | none =>
      obtain ⟨rfl, _, rfl⟩ := hrd.nil_of
      obtain ⟨v', w', hr, h2, h3, _⟩ := run_append_own (P := P) w w.heap.size t ty e i z size bytes ht hi hz hsize hbytes hzs hsz (.slice none 0 0) 0 [] (World.ownsRow_nil w _ e size) ad m c news hn hc h1 (by simp only [maxLen]; omega) (by omega) (Nat.le_refl _)
      exact ⟨v', w', hr, own_mono h2 hbase, _, h3, fun k hk => by simp [Value.ownBlock] at hk⟩

theorem run_appendS (ty t e : TypeId)
    (base : Nat) (z : Value) (size bytes : Nat) (ht : P.underlying t = some (.slice e)) (hinfo : (P.info? e).map (fun i => (i.zero, i.size, i.bytes)) = some (some z, size, bytes))
    (hzs : z.cells.size = size) (hsz : 0 < size)
    (v : Value) (n : Nat) (xs : List Value) (hown : Gs w base e size v n xs)
    (v2 : Value) (m : Nat) (new : List Value) (hrd : Rd w e size v2 m new) (h1 : ∀ u ∈ new, u.oneCell' = true)
    (h63 : n + m ≤ 1000000000) (hby : bytes ≤ 10000) (hbase : base ≤ w.heap.size) :
    ∃ v' w', (Builtin.append_ #[t, t] ty #[v, v2]).run P w = .ok v' w' ∧ Gs w' base e size v' (n + m) (xs ++ new) ∧ (0 < m → w'.ownsRow base e size v' (n + m) (xs ++ new)) ∧ Grew base v w w' ∧ (m = 0 → v' = v ∧ w' = w) := by
  obtain ⟨i, hi, hz, hsize, hbytes⟩ := info_parts hinfo
  obtain ⟨ao, c, rfl, hc1, hc2⟩ := hrd.form'
  by_cases hm : m = 0
  · subst hm
    have hnew : new = [] := List.eq_nil_of_length_eq_zero (by simpa using hrd.1)
    subst hnew
    refine ⟨v, w, ?_, by simpa using hown, by omega, ⟨none, ⟨rfl, rfl, rfl, Nat.le_refl _, fun _ _ _ => rfl⟩, fun k hk => by cases hk⟩, fun _ => ⟨rfl, rfl⟩⟩
    obtain ⟨a2, c2, rfl, hn2, _⟩ := hown.rd.form'
    cases ao <;> cases a2 <;> simp [Builtin.append_, run_underlying ht, sizeOf, typeInfo, hi, Builtin.lenOf, Builtin.firstCells, hn2, storeCells, loadCells, loadCellsFrom]
  · cases ao with
    | none => obtain ⟨rfl, _, _⟩ := hrd.nil_of; omega
    | some ad =>
      obtain ⟨v', w', hr, h2, h3⟩ := run_append_core (P := P) ty t e base z size bytes ht hinfo hzs hsz v n xs hown ad m c new hrd.1 hrd.news h1 h63 hby hbase (by omega)
      exact ⟨v', w', hr, .inl h2, fun _ => h2, h3, fun e => absurd e hm⟩

/-- what an append comes to, at the operation -/
theorem wp_append {K : Act → World → Prop} (s x : Operand) (t : TypeId) (ho : o.op = .call { callee := .builtin .append, args := #[s, x], argTypes := #[t, t] }) (v v2 : Value) (hs : a.eval s = v) (hx : a.eval x = v2)
    (v' : Value) (w' : World) (hr : (Builtin.append_ #[t, t] o.type #[v, v2]).run P w = .ok v' w') (h : K (a.put o.dst v') w') : o.wp P a w K Q := by
  unfold Oper.wp execOp
  simp only [ho, resolve, invoke, builtin, Sem.run_bind, Sem.run_pure, Result.andThen_ok, List.map_toArray, List.map_cons, List.map_nil, hs, hx, hr]
  exact h
/-- one step of a region that draws its order -/
theorem step_wp {K : Act → World → Prop} {E : Prop} (hg : o.guard = none) (h : o.wp P a w K Q) : if Region.wanted o (yielded ops a.tmps) = true then Oper.wp P o a w K Q else E := by
  have hw : Region.wanted o (yielded ops a.tmps) = true := by simp [Region.wanted, hg]
  rw [if_pos hw]
  exact h

theorem append_core (hg : o.guard = none) (s x : Operand) (t e : TypeId) (ho : o.op = .call { callee := .builtin .append, args := #[s, x], argTypes := #[t, t] })
    (base : Nat) (z : Value) (size bytes : Nat) (ht : P.underlying t = some (.slice e)) (hinfo : (P.info? e).map (fun i => (i.zero, i.size, i.bytes)) = some (some z, size, bytes))
    (hzs : z.cells.size = size) (hsz : 0 < size)
    (v : Value) (n : Nat) (xs : List Value) (hs : a.eval s = v) (hown : Gs w base e size v n xs)
    (ad : Addr) (m c : Nat) (news : List Value) (hx : a.eval x = .slice (some ad) m c) (hn : news.length = m * size) (hc : ∀ j u, news[j]? = some u → w.cell? (ad.add j) = some u) (h1 : ∀ u ∈ news, u.oneCell' = true)
    (h63 : n + m ≤ 1000000000) (hby : bytes ≤ 10000) (hbase : base ≤ w.heap.size) (hm : 0 < m)
    (h : ∀ v' w', w'.ownsRow base e size v' (n + m) (xs ++ news) → Grew base v w w' → wpList P ops Q rest (a.put o.dst v') w') : wpList P ops Q (o :: rest) a w := by
  obtain ⟨v', w', hr, h2, h3⟩ := run_append_core (P := P) o.type t e base z size bytes ht hinfo hzs hsz v n xs hown ad m c news hn hc h1 h63 hby hbase hm
  exact wpList_plain hg fun _ hK => wp_append s x t ho _ _ hs hx v' w' hr (hK _ _ (h v' w' h2 h3))

/-- 'append(s, x)' of one element: the slice literal and the append in one; s is the call's own row (or nil), or full -/
theorem wpList_append1 {o1 o2 : Oper} (hg1 : o1.guard = none) (hg2 : o2.guard = none) (s x : Operand) (t e : TypeId) (d1 : Nat) (hd1 : o1.dst = some d1)
    (ho1 : o1.op = .buildSlice t 1 #[(0, x)]) (ho2 : o2.op = .call { callee := .builtin .append, args := #[s, .tmp d1], argTypes := #[t, t] })
    (hd1s : Nat.blt d1 a.tmps.size = true) (hs0 : (a.put (some d1) (.slice (some ⟨w.heap.size, 0, none⟩) 1 1)).eval s = a.eval s)
    (base : Nat) (z : Value) (size bytes : Nat) (ht : P.underlying t = some (.slice e)) (hinfo : (P.info? e).map (fun i => (i.zero, i.size, i.bytes)) = some (some z, size, bytes))
    (hzs : z.cells.size = size) (hsz : 0 < size) (hsm : size ≤ 1000)
    (v : Value) (n : Nat) (xs : List Value) (hs : a.eval s = v) (hown : Gs w base e size v n xs)
    (new : List Value) (hx : (a.eval x).cells = new.toArray) (hl : new.length = size) (h1 : ∀ u ∈ new, u.oneCell' = true)
    (h63 : n + 1 ≤ 1000000000) (hby : bytes ≤ 10000) (hbase : base ≤ w.heap.size)
    (h : ∀ v' w', w'.ownsRow base e size v' (n + 1) (xs ++ new) → Grew base v w w' →
      wpList P ops Q rest ((a.put (some d1) (.slice (some ⟨w.heap.size, 0, none⟩) 1 1)).put o2.dst v') w') : wpList P ops Q (o1 :: o2 :: rest) a w := by
  obtain ⟨i, hi, hz, hsize, hbytes⟩ := info_parts hinfo
  refine wpList_buildSlice hg1 t e 1 #[(0, x)] ho1 new.toArray i z ht hi hz (by rw [hsize]; omega) (by rw [hsize]; omega) ?_ ?_
  · simp only [List.map_toArray, List.map_cons, List.map_nil, Instr.fill, hsize, Nat.one_mul, Nat.zero_mul, Nat.zero_add]
    have hsz2 : (a.eval x).cells.size = size := by rw [hx]; simpa using hl
    simp only [hsz2, ne_eq, not_true_eq_false, Array.size_map, Array.size_range, gt_iff_lt, Nat.lt_irrefl, decide_false, Bool.false_or, Bool.false_eq_true, if_false]
    rw [hx, fold_whole new _ (by simp [hl])]
  · rw [hd1]
    have hd : d1 < a.tmps.size := Nat.le_of_ble_eq_true hd1s
    refine append_core hg2 s (.tmp d1) t e ho2 base z size bytes ht hinfo hzs hsz v n xs (by rw [hs0, hs]) (hown.alloc _) ⟨w.heap.size, 0, none⟩ 1 1 new ?_ (by omega) ?_ h1 h63 hby (by simp; omega) (by omega) ?_
    · simp [Act.eval, Act.put, hd]
    · intro j u hu
      have hadd : (⟨w.heap.size, 0, none⟩ : Addr).add j = ⟨w.heap.size, j, none⟩ := by unfold Addr.add; split <;> simp_all
      rw [hadd, cell_of_row _ _ j _ e (0, 0) (heap_alloc_new w _)]
      simpa using hu
    · intro v' w' h2 ⟨row, h3, hr⟩
      refine h v' w' h2 ⟨row, ⟨h3.os, h3.tape, h3.output, Nat.le_trans (by simp) h3.size, fun k hk hne => ?_⟩, hr⟩
      rw [h3.block k (by simp; omega) hne, Below.heap_alloc w _ k hk]
/-- 'append(s, xs...)' -/
theorem wpList_appendS (hg : o.guard = none) (s x : Operand) (t e : TypeId) (ho : o.op = .call { callee := .builtin .append, args := #[s, x], argTypes := #[t, t] })
    (base : Nat) (z : Value) (size bytes : Nat) (ht : P.underlying t = some (.slice e)) (hinfo : (P.info? e).map (fun i => (i.zero, i.size, i.bytes)) = some (some z, size, bytes))
    (hzs : z.cells.size = size) (hsz : 0 < size)
    (v : Value) (n : Nat) (xs : List Value) (hs : a.eval s = v) (hown : Gs w base e size v n xs)
    (v2 : Value) (m : Nat) (new : List Value) (hx : a.eval x = v2) (hrd : Rd w e size v2 m new) (h1 : ∀ u ∈ new, u.oneCell' = true)
    (h63 : n + m ≤ 1000000000) (hby : bytes ≤ 10000) (hbase : base ≤ w.heap.size)
    (h : ∀ v' w', Gs w' base e size v' (n + m) (xs ++ new) → (0 < m → w'.ownsRow base e size v' (n + m) (xs ++ new)) → Grew base v w w' → (m = 0 → v' = v ∧ w' = w) → wpList P ops Q rest (a.put o.dst v') w') : wpList P ops Q (o :: rest) a w := by
  obtain ⟨v', w', hr, h2, h3, h4, h5⟩ := run_appendS (P := P) o.type t e base z size bytes ht hinfo hzs hsz v n xs hown v2 m new hrd h1 h63 hby hbase
  exact wpList_plain hg fun _ hK => wp_append s x t ho _ _ hs hx v' w' hr (hK _ _ (h v' w' h2 h3 h4 h5))
theorem step_appendS {K : Act → World → Prop} {E : Prop} (hg : o.guard = none) (s x : Operand) (t e : TypeId) (ho : o.op = .call { callee := .builtin .append, args := #[s, x], argTypes := #[t, t] })
    (base : Nat) (z : Value) (size bytes : Nat) (ht : P.underlying t = some (.slice e)) (hinfo : (P.info? e).map (fun i => (i.zero, i.size, i.bytes)) = some (some z, size, bytes))
    (hzs : z.cells.size = size) (hsz : 0 < size)
    (v : Value) (n : Nat) (xs : List Value) (hs : a.eval s = v) (hown : Gs w base e size v n xs)
    (v2 : Value) (m : Nat) (new : List Value) (hx : a.eval x = v2) (hrd : Rd w e size v2 m new) (h1 : ∀ u ∈ new, u.oneCell' = true)
    (h63 : n + m ≤ 1000000000) (hby : bytes ≤ 10000) (hbase : base ≤ w.heap.size)
    (h : ∀ v' w', Gs w' base e size v' (n + m) (xs ++ new) → (0 < m → w'.ownsRow base e size v' (n + m) (xs ++ new)) → Grew base v w w' → (m = 0 → v' = v ∧ w' = w) → K (a.put o.dst v') w') :
    if Region.wanted o (yielded ops a.tmps) = true then Oper.wp P o a w K Q else E := by
  obtain ⟨v', w', hr, h2, h3, h4, h5⟩ := run_appendS (P := P) o.type t e base z size bytes ht hinfo hzs hsz v n xs hown v2 m new hrd h1 h63 hby hbase
  exact step_wp hg (wp_append s x t ho _ _ hs hx v' w' hr (h v' w' h2 h3 h4 h5))
end Go.Proofs.YtdpobhcpmpfioaaDoor

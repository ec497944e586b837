import Derived.Test.YtdpobhcpmpfioaaDoorM02
import Derived.Test.YtdpobhcpmpfioaaDoorProg
import Derived.KernelRfl
import Derived.Lib.Hide
set_option linter.all false
set_option linter.unusedVariables false
set_option linter.unusedSimpArgs false
/-! Facts on the translation's table of types, and laws for structs. -/
namespace Go.Proofs.YtdpobhcpmpfioaaDoor
open Go.RowKit
variable {ops : Array Oper} {rest : List Oper} {o : Oper} {a : Act} {w : World} {Q : Exit → Act → World → Prop}

abbrev txc (t : Tx) (i o : Value) : List Value := [.int .u32 t.version, i, o, .int .u32 t.lock]
abbrev outc (x : TOut) (s : Value) : List Value := [.int .u64 x.value, s]
structure Ent where
  tx : Tx
  id : ID
  wid : ID
  fee : Int
  size : Int
  since : Int
  dust : List Int
  deriving DecidableEq
/-- the cells of an entry: the transaction's two slices and the dust's slice are values -/
def entc (e : Ent) (i o d : Value) : List Value := txc e.tx i o ++ idc e.id ++ idc e.wid ++ [.int .u64 e.fee, .int .i64 e.size, .int .i64 e.since, d]
@[simp] theorem entc_length (e : Ent) (i o d : Value) : (entc e i o d).length = 72 := by simp [entc, txc]
@[simp] theorem txc_length (e : Tx) (i o : Value) : (txc e i o).length = 4 := rfl
@[simp] theorem outc_length (e : TOut) (i : Value) : (outc e i).length = 2 := rfl

def Sl (v : Value) : Prop := ∃ a n c, v = .slice a n c
theorem Sl.one {v : Value} (h : Sl v) : v.oneCell' = true := by obtain ⟨a, n, c, rfl⟩ := h; rfl
theorem Rd.sl {w : World} {T k n : Nat} {v : Value} {cells : List Value} (h : Rd w T k v n cells) : Sl v := by obtain ⟨a, c, e, _⟩ := h.form'; exact ⟨_, _, _, e⟩
theorem RSl.sl {α : Type} {w : World} {T k : Nat} {R : List Value → α → Prop} {v : Value} {l : List α} (h : RSl w T k R v l) : Sl v := by obtain ⟨a, c, e, _⟩ := h.form; exact ⟨_, _, _, e⟩
theorem RBy.sl {w : World} {v : Value} {l : List Int} (h : RBy w v l) : Sl v := Rd.sl h
theorem RIns.sl {w : World} {v : Value} {l} (h : RIns w v l) : Sl v := Rd.sl h
theorem ROuts.sl {w : World} {v : Value} {l} (h : ROuts w v l) : Sl v := RSl.sl h
theorem idc_one (x : ID) : ∀ v ∈ idc x, v.oneCell' = true := by
  intro v hv
  obtain ⟨n, _, rfl⟩ := List.mem_map.1 hv
  rfl
theorem ptc_one (x : Pt) : ∀ v ∈ ptc x, v.oneCell' = true := by
  intro v hv
  rcases List.mem_append.1 hv with h | h
  · exact idc_one _ v h
  · simp at h; subst h; rfl
theorem inc_one (x : TIn) : ∀ v ∈ inc x, v.oneCell' = true := by
  intro v hv
  rcases List.mem_append.1 hv with h | h
  · exact idc_one _ v h
  · simp at h
    rcases h with rfl | rfl | rfl | rfl <;> rfl
theorem outc_one (x : TOut) {s : Value} (hs : Sl s) : ∀ v ∈ outc x s, v.oneCell' = true := by
  intro v hv
  simp [outc] at hv
  rcases hv with rfl | rfl
  · rfl
  · exact hs.one
theorem txc_one (x : Tx) {i o : Value} (hi : Sl i) (ho : Sl o) : ∀ v ∈ txc x i o, v.oneCell' = true := by
  intro v hv
  simp [txc] at hv
  rcases hv with rfl | rfl | rfl | rfl
  · rfl
  · exact hi.one
  · exact ho.one
  · rfl
theorem entc_one (x : Ent) {i o d : Value} (hi : Sl i) (ho : Sl o) (hd : Sl d) : ∀ v ∈ entc x i o d, v.oneCell' = true := by
  intro v hv
  simp only [entc, List.mem_append] at hv
  rcases hv with ((h | h) | h) | h
  · exact txc_one _ hi ho v h
  · exact idc_one _ v h
  · exact idc_one _ v h
  · simp at h
    rcases h with rfl | rfl | rfl | rfl
    · rfl
    · rfl
    · rfl
    · exact hd.one
/-- the front of what lies in the block that was made last -/
theorem range_new (w : World) (c : List Value) (T : TypeId) (o : Nat) (l : List Value) (h : ∀ j u, l[j]? = some u → c[o + j]? = some u) : (w.alloc (.cells c.toArray T)).rangeAt w.heap.size o l := by
  intro j u hu
  rw [cell_of_row _ _ _ _ _ _ (heap_alloc_new w _)]
  simpa using h j u hu
theorem cell_new (w : World) (c : List Value) (T : TypeId) (o : Nat) (u : Value) (h : c[o]? = some u) : (w.alloc (.cells c.toArray T)).cell? ⟨w.heap.size, o, none⟩ = some u := by
  rw [cell_of_row _ _ _ _ _ _ (heap_alloc_new w _)]
  simpa using h
theorem pre_get {l m : List Value} : ∀ j u, l[j]? = some u → (l ++ m)[0 + j]? = some u := by
  intro j u h
  rw [Nat.zero_add, List.getElem?_append, if_pos (List.getElem?_eq_some_iff.1 h).1]
  exact h
theorem mid_get {l m r : List Value} {n : Nat} (hn : l.length = n) : ∀ j u, m[j]? = some u → (l ++ m ++ r)[n + j]? = some u := by
  intro j u h
  have hj := (List.getElem?_eq_some_iff.1 h).1
  rw [List.append_assoc, List.getElem?_append, if_neg (by omega), List.getElem?_append, if_pos (by omega)]
  rw [show n + j - l.length = j by omega]
  exact h
theorem inc_prev (x : TIn) : ∀ j u, (idc x.prev)[j]? = some u → (inc x)[0 + j]? = some u := pre_get
theorem inc_at (x : TIn) : (inc x)[32]? = some (.int .u32 x.vout) ∧ (inc x)[33]? = some (.slice none 0 0) ∧ (inc x)[34]? = some (.int .u32 x.seq) ∧ (inc x)[35]? = some (.slice none 0 0) := by
  refine ⟨?_, ?_, ?_, ?_⟩ <;> simp [inc]

/-! ID -/
theorem szID : (Tryd.prog.info? 24).map (·.size) = some 32 := by kernel_rfl
theorem zsID : (Tryd.prog.info? 24).map (fun i => (i.zero.map (·.cells.size), i.size)) = some (some 32, 32) := by kernel_rfl
theorem ldID (x' : Operand) (b off : Nat) (i : ID) (hg : o.guard = none) (ho : o.op = .load 24 x') (hx : a.eval x' = .pointer (some ⟨b, off, none⟩)) (hc : w.rangeAt b off (idc i))
    (h : wpList Tryd.prog ops Q rest (a.put o.dst (.agg (idc i).toArray)) w) : wpList Tryd.prog ops Q (o :: rest) a w :=
  wpList_load_mid hg 24 x' ho b off hx _ _ hc Tryd.underlying24 rfl (by rw [idc_length i]; exact szID) h
theorem asID {o1 o2 : Oper} (y : Operand) (d1 : Nat) (i : ID) (hg1 : o1.guard = none) (hg2 : o2.guard = none) (hd1 : o1.dst = some d1) (ho1 : o1.op = .alloc 24) (ho2 : o2.op = .store 24 (.tmp d1) y) (hd2 : o2.dst = none)
    (hsz : Nat.blt d1 a.tmps.size = true) (hy : (a.put (some d1) (.pointer (some ⟨w.heap.size, 0, none⟩))).eval y = .agg (idc i).toArray)
    (h : wpList Tryd.prog ops Q rest (a.put (some d1) (.pointer (some ⟨w.heap.size, 0, none⟩))) (w.alloc (.cells (idc i).toArray 24))) : wpList Tryd.prog ops Q (o1 :: o2 :: rest) a w :=
  wpList_allocStore hg1 hg2 24 y d1 hd1 ho1 ho2 hd2 hsz _ hy 32 zsID (idc_length i) (idc_one i) h

def zID : Value := .agg (Array.replicate 32 (.int .u8 0))
theorem infoID : (Tryd.prog.info? 24).map (fun i => (i.zero, i.size, i.bytes)) = some (some zID, 32, 32) := by kernel_rfl
theorem apID {o1 o2 : Oper} (s' x' : Operand) (d1 : Nat) (base : Nat) (v : Value) (n : Nat) (xs : List Value) (i : ID) (hg1 : o1.guard = none) (hg2 : o2.guard = none) (hd1 : o1.dst = some d1)
    (ho1 : o1.op = .buildSlice 51 1 #[(0, x')]) (ho2 : o2.op = .call { callee := .builtin .append, args := #[s', .tmp d1], argTypes := #[51, 51] })
    (hsz : Nat.blt d1 a.tmps.size = true) (hs0 : (a.put (some d1) (.slice (some ⟨w.heap.size, 0, none⟩) 1 1)).eval s' = a.eval s') (hs : a.eval s' = v) (hx : a.eval x' = .agg (idc i).toArray)
    (hown : Gs w base 24 32 v n xs) (h63 : n + 1 ≤ 1000000000) (hbase : base ≤ w.heap.size)
    (h : ∀ v' w', w'.ownsRow base 24 32 v' (n + 1) (xs ++ idc i) → Grew base v w w' →
      wpList Tryd.prog ops Q rest ((a.put (some d1) (.slice (some ⟨w.heap.size, 0, none⟩) 1 1)).put o2.dst v') w') : wpList Tryd.prog ops Q (o1 :: o2 :: rest) a w :=
  wpList_append1 hg1 hg2 s' x' 51 24 d1 hd1 ho1 ho2 hsz hs0 base zID 32 32 Tryd.underlying51 infoID (by rfl) (by decide) (by decide) v n xs hs hown (idc i) (by rw [hx]; rfl) (idc_length i) (idc_one i) h63 (by decide) hbase h

/-! Pt -/
theorem szPt : (Tryd.prog.info? 61).map (·.size) = some 33 := by kernel_rfl
theorem zsPt : (Tryd.prog.info? 61).map (fun i => (i.zero.map (·.cells.size), i.size)) = some (some 33, 33) := by kernel_rfl
theorem ldPt (x' : Operand) (b off : Nat) (p : Pt) (hg : o.guard = none) (ho : o.op = .load 61 x') (hx : a.eval x' = .pointer (some ⟨b, off, none⟩)) (hc : w.rangeAt b off (ptc p))
    (h : wpList Tryd.prog ops Q rest (a.put o.dst (.agg (ptc p).toArray)) w) : wpList Tryd.prog ops Q (o :: rest) a w :=
  wpList_load_mid hg 61 x' ho b off hx _ _ hc Tryd.underlying61 rfl (by rw [ptc_length p]; exact szPt) h
theorem asPt {o1 o2 : Oper} (y : Operand) (d1 : Nat) (p : Pt) (hg1 : o1.guard = none) (hg2 : o2.guard = none) (hd1 : o1.dst = some d1) (ho1 : o1.op = .alloc 61) (ho2 : o2.op = .store 61 (.tmp d1) y) (hd2 : o2.dst = none)
    (hsz : Nat.blt d1 a.tmps.size = true) (hy : (a.put (some d1) (.pointer (some ⟨w.heap.size, 0, none⟩))).eval y = .agg (ptc p).toArray)
    (h : wpList Tryd.prog ops Q rest (a.put (some d1) (.pointer (some ⟨w.heap.size, 0, none⟩))) (w.alloc (.cells (ptc p).toArray 61))) : wpList Tryd.prog ops Q (o1 :: o2 :: rest) a w :=
  wpList_allocStore hg1 hg2 61 y d1 hd1 ho1 ho2 hd2 hsz _ hy 33 zsPt (ptc_length p) (ptc_one p) h

def zPt : Value := .agg (Array.replicate 32 (.int .u8 0) ++ #[.int .u32 0])
theorem infoPt : (Tryd.prog.info? 61).map (fun i => (i.zero, i.size, i.bytes)) = some (some zPt, 33, 36) := by kernel_rfl
theorem apPt {o1 o2 : Oper} (s' x' : Operand) (d1 : Nat) (base : Nat) (v : Value) (n : Nat) (xs : List Value) (p : Pt) (hg1 : o1.guard = none) (hg2 : o2.guard = none) (hd1 : o1.dst = some d1)
    (ho1 : o1.op = .buildSlice 58 1 #[(0, x')]) (ho2 : o2.op = .call { callee := .builtin .append, args := #[s', .tmp d1], argTypes := #[58, 58] })
    (hsz : Nat.blt d1 a.tmps.size = true) (hs0 : (a.put (some d1) (.slice (some ⟨w.heap.size, 0, none⟩) 1 1)).eval s' = a.eval s') (hs : a.eval s' = v) (hx : a.eval x' = .agg (ptc p).toArray)
    (hown : Gs w base 61 33 v n xs) (h63 : n + 1 ≤ 1000000000) (hbase : base ≤ w.heap.size)
    (h : ∀ v' w', w'.ownsRow base 61 33 v' (n + 1) (xs ++ ptc p) → Grew base v w w' →
      wpList Tryd.prog ops Q rest ((a.put (some d1) (.slice (some ⟨w.heap.size, 0, none⟩) 1 1)).put o2.dst v') w') : wpList Tryd.prog ops Q (o1 :: o2 :: rest) a w :=
  wpList_append1 hg1 hg2 s' x' 58 61 d1 hd1 ho1 ho2 hsz hs0 base zPt 33 36 Tryd.underlying58 infoPt (by rfl) (by decide) (by decide) v n xs hs hown (ptc p) (by rw [hx]; rfl) (ptc_length p) (ptc_one p) h63 (by decide) hbase h

/-! In -/
theorem szIn : (Tryd.prog.info? 28).map (·.size) = some 36 := by kernel_rfl
theorem zsIn : (Tryd.prog.info? 28).map (fun i => (i.zero.map (·.cells.size), i.size)) = some (some 36, 36) := by kernel_rfl
theorem ldIn (x' : Operand) (b off : Nat) (x : TIn) (hg : o.guard = none) (ho : o.op = .load 28 x') (hx : a.eval x' = .pointer (some ⟨b, off, none⟩)) (hc : w.rangeAt b off (inc x))
    (h : wpList Tryd.prog ops Q rest (a.put o.dst (.agg (inc x).toArray)) w) : wpList Tryd.prog ops Q (o :: rest) a w :=
  wpList_load_mid hg 28 x' ho b off hx _ _ hc Tryd.underlying28 rfl (by rw [inc_length x]; exact szIn) h
theorem asIn {o1 o2 : Oper} (y : Operand) (d1 : Nat) (x : TIn) (hg1 : o1.guard = none) (hg2 : o2.guard = none) (hd1 : o1.dst = some d1) (ho1 : o1.op = .alloc 28) (ho2 : o2.op = .store 28 (.tmp d1) y) (hd2 : o2.dst = none)
    (hsz : Nat.blt d1 a.tmps.size = true) (hy : (a.put (some d1) (.pointer (some ⟨w.heap.size, 0, none⟩))).eval y = .agg (inc x).toArray)
    (h : wpList Tryd.prog ops Q rest (a.put (some d1) (.pointer (some ⟨w.heap.size, 0, none⟩))) (w.alloc (.cells (inc x).toArray 28))) : wpList Tryd.prog ops Q (o1 :: o2 :: rest) a w :=
  wpList_allocStore hg1 hg2 28 y d1 hd1 ho1 ho2 hd2 hsz _ hy 36 zsIn (inc_length x) (inc_one x) h

def zIn : Value := .agg (Array.replicate 32 (.int .u8 0) ++ #[.int .u32 0, .slice none 0 0, .int .u32 0, .slice none 0 0])
theorem infoIn : (Tryd.prog.info? 28).map (fun i => (i.zero, i.size, i.bytes)) = some (some zIn, 36, 96) := by kernel_rfl
theorem apIn {o1 o2 : Oper} (s' x' : Operand) (d1 : Nat) (base : Nat) (v : Value) (n : Nat) (xs : List Value) (x : TIn) (hg1 : o1.guard = none) (hg2 : o2.guard = none) (hd1 : o1.dst = some d1)
    (ho1 : o1.op = .buildSlice 29 1 #[(0, x')]) (ho2 : o2.op = .call { callee := .builtin .append, args := #[s', .tmp d1], argTypes := #[29, 29] })
    (hsz : Nat.blt d1 a.tmps.size = true) (hs0 : (a.put (some d1) (.slice (some ⟨w.heap.size, 0, none⟩) 1 1)).eval s' = a.eval s') (hs : a.eval s' = v) (hx : a.eval x' = .agg (inc x).toArray)
    (hown : Gs w base 28 36 v n xs) (h63 : n + 1 ≤ 1000000000) (hbase : base ≤ w.heap.size)
    (h : ∀ v' w', w'.ownsRow base 28 36 v' (n + 1) (xs ++ inc x) → Grew base v w w' →
      wpList Tryd.prog ops Q rest ((a.put (some d1) (.slice (some ⟨w.heap.size, 0, none⟩) 1 1)).put o2.dst v') w') : wpList Tryd.prog ops Q (o1 :: o2 :: rest) a w :=
  wpList_append1 hg1 hg2 s' x' 29 28 d1 hd1 ho1 ho2 hsz hs0 base zIn 36 96 Tryd.underlying29 infoIn (by rfl) (by decide) (by decide) v n xs hs hown (inc x) (by rw [hx]; rfl) (inc_length x) (inc_one x) h63 (by decide) hbase h

/-! Out -/
theorem szOut : (Tryd.prog.info? 34).map (·.size) = some 2 := by kernel_rfl
theorem zsOut : (Tryd.prog.info? 34).map (fun i => (i.zero.map (·.cells.size), i.size)) = some (some 2, 2) := by kernel_rfl
theorem ldOut (x' : Operand) (b off : Nat) (x : TOut) (s : Value) (hg : o.guard = none) (ho : o.op = .load 34 x') (hx : a.eval x' = .pointer (some ⟨b, off, none⟩)) (hc : w.rangeAt b off (outc x s))
    (h : wpList Tryd.prog ops Q rest (a.put o.dst (.agg (outc x s).toArray)) w) : wpList Tryd.prog ops Q (o :: rest) a w :=
  wpList_load_mid hg 34 x' ho b off hx _ _ hc Tryd.underlying34 rfl (by rw [outc_length x s]; exact szOut) h
theorem asOut {o1 o2 : Oper} (y : Operand) (d1 : Nat) (x : TOut) (s : Value) (hs1 : Sl s) (hg1 : o1.guard = none) (hg2 : o2.guard = none) (hd1 : o1.dst = some d1) (ho1 : o1.op = .alloc 34) (ho2 : o2.op = .store 34 (.tmp d1) y) (hd2 : o2.dst = none)
    (hsz : Nat.blt d1 a.tmps.size = true) (hy : (a.put (some d1) (.pointer (some ⟨w.heap.size, 0, none⟩))).eval y = .agg (outc x s).toArray)
    (h : wpList Tryd.prog ops Q rest (a.put (some d1) (.pointer (some ⟨w.heap.size, 0, none⟩))) (w.alloc (.cells (outc x s).toArray 34))) : wpList Tryd.prog ops Q (o1 :: o2 :: rest) a w :=
  wpList_allocStore hg1 hg2 34 y d1 hd1 ho1 ho2 hd2 hsz _ hy 2 zsOut (outc_length x s) (outc_one x hs1) h

def zOut : Value := .agg #[.int .u64 0, .slice none 0 0]
theorem infoOut : (Tryd.prog.info? 34).map (fun i => (i.zero, i.size, i.bytes)) = some (some zOut, 2, 32) := by kernel_rfl
theorem apOut {o1 o2 : Oper} (s' x' : Operand) (d1 : Nat) (base : Nat) (v : Value) (n : Nat) (xs : List Value) (x : TOut) (s : Value) (hs1 : Sl s) (hg1 : o1.guard = none) (hg2 : o2.guard = none) (hd1 : o1.dst = some d1)
    (ho1 : o1.op = .buildSlice 30 1 #[(0, x')]) (ho2 : o2.op = .call { callee := .builtin .append, args := #[s', .tmp d1], argTypes := #[30, 30] })
    (hsz : Nat.blt d1 a.tmps.size = true) (hs0 : (a.put (some d1) (.slice (some ⟨w.heap.size, 0, none⟩) 1 1)).eval s' = a.eval s') (hs : a.eval s' = v) (hx : a.eval x' = .agg (outc x s).toArray)
    (hown : Gs w base 34 2 v n xs) (h63 : n + 1 ≤ 1000000000) (hbase : base ≤ w.heap.size)
    (h : ∀ v' w', w'.ownsRow base 34 2 v' (n + 1) (xs ++ outc x s) → Grew base v w w' →
      wpList Tryd.prog ops Q rest ((a.put (some d1) (.slice (some ⟨w.heap.size, 0, none⟩) 1 1)).put o2.dst v') w') : wpList Tryd.prog ops Q (o1 :: o2 :: rest) a w :=
  wpList_append1 hg1 hg2 s' x' 30 34 d1 hd1 ho1 ho2 hsz hs0 base zOut 2 32 Tryd.underlying30 infoOut (by rfl) (by decide) (by decide) v n xs hs hown (outc x s) (by rw [hx]; rfl) (outc_length x s) (outc_one x hs1) h63 (by decide) hbase h

/-! Tx -/
theorem szTx : (Tryd.prog.info? 32).map (·.size) = some 4 := by kernel_rfl
theorem zsTx : (Tryd.prog.info? 32).map (fun i => (i.zero.map (·.cells.size), i.size)) = some (some 4, 4) := by kernel_rfl
theorem ldTx (x' : Operand) (b off : Nat) (t : Tx) (i u : Value) (hg : o.guard = none) (ho : o.op = .load 32 x') (hx : a.eval x' = .pointer (some ⟨b, off, none⟩)) (hc : w.rangeAt b off (txc t i u))
    (h : wpList Tryd.prog ops Q rest (a.put o.dst (.agg (txc t i u).toArray)) w) : wpList Tryd.prog ops Q (o :: rest) a w :=
  wpList_load_mid hg 32 x' ho b off hx _ _ hc Tryd.underlying32 rfl (by rw [txc_length t i u]; exact szTx) h
theorem asTx {o1 o2 : Oper} (y : Operand) (d1 : Nat) (t : Tx) (i u : Value) (hs1 : Sl i) (hs2 : Sl u) (hg1 : o1.guard = none) (hg2 : o2.guard = none) (hd1 : o1.dst = some d1) (ho1 : o1.op = .alloc 32) (ho2 : o2.op = .store 32 (.tmp d1) y) (hd2 : o2.dst = none)
    (hsz : Nat.blt d1 a.tmps.size = true) (hy : (a.put (some d1) (.pointer (some ⟨w.heap.size, 0, none⟩))).eval y = .agg (txc t i u).toArray)
    (h : wpList Tryd.prog ops Q rest (a.put (some d1) (.pointer (some ⟨w.heap.size, 0, none⟩))) (w.alloc (.cells (txc t i u).toArray 32))) : wpList Tryd.prog ops Q (o1 :: o2 :: rest) a w :=
  wpList_allocStore hg1 hg2 32 y d1 hd1 ho1 ho2 hd2 hsz _ hy 4 zsTx (txc_length t i u) (txc_one t hs1 hs2) h

/-! Ent -/
theorem szEnt : (Tryd.prog.info? 42).map (·.size) = some 72 := by kernel_rfl
theorem zsEnt : (Tryd.prog.info? 42).map (fun i => (i.zero.map (·.cells.size), i.size)) = some (some 72, 72) := by kernel_rfl
theorem ldEnt (x' : Operand) (b off : Nat) (x : Ent) (i u d : Value) (hg : o.guard = none) (ho : o.op = .load 42 x') (hx : a.eval x' = .pointer (some ⟨b, off, none⟩)) (hc : w.rangeAt b off (entc x i u d))
    (h : wpList Tryd.prog ops Q rest (a.put o.dst (.agg (entc x i u d).toArray)) w) : wpList Tryd.prog ops Q (o :: rest) a w :=
  wpList_load_mid hg 42 x' ho b off hx _ _ hc Tryd.underlying42 rfl (by rw [entc_length x i u d]; exact szEnt) h
theorem asEnt {o1 o2 : Oper} (y : Operand) (d1 : Nat) (x : Ent) (i u d : Value) (hs1 : Sl i) (hs2 : Sl u) (hs3 : Sl d) (hg1 : o1.guard = none) (hg2 : o2.guard = none) (hd1 : o1.dst = some d1) (ho1 : o1.op = .alloc 42) (ho2 : o2.op = .store 42 (.tmp d1) y) (hd2 : o2.dst = none)
    (hsz : Nat.blt d1 a.tmps.size = true) (hy : (a.put (some d1) (.pointer (some ⟨w.heap.size, 0, none⟩))).eval y = .agg (entc x i u d).toArray)
    (h : wpList Tryd.prog ops Q rest (a.put (some d1) (.pointer (some ⟨w.heap.size, 0, none⟩))) (w.alloc (.cells (entc x i u d).toArray 42))) : wpList Tryd.prog ops Q (o1 :: o2 :: rest) a w :=
  wpList_allocStore hg1 hg2 42 y d1 hd1 ho1 ho2 hd2 hsz _ hy 72 zsEnt (entc_length x i u d) (entc_one x hs1 hs2 hs3) h

theorem infoU8 : (Tryd.prog.info? 5).map (fun i => (i.zero, i.size, i.bytes)) = some (some (.int .u8 0), 1, 1) := by kernel_rfl
theorem infoInt : (Tryd.prog.info? 3).map (fun i => (i.zero, i.size, i.bytes)) = some (some (.int .i64 0), 1, 8) := by kernel_rfl
def zU8 : Value := .int .u8 0
def zInt : Value := .int .i64 0

theorem zcU8 : zU8.cells.size = 1 := by decide
theorem apsU8 (s' x' : Operand) (base : Nat) (v : Value) (n : Nat) (xs : List Value) (v2 : Value) (m : Nat) (new : List Value) (hg : o.guard = none)
    (ho : o.op = .call { callee := .builtin .append, args := #[s', x'], argTypes := #[25, 25] }) (hs : a.eval s' = v) (hx : a.eval x' = v2)
    (hown : Gs w base 5 1 v n xs) (hrd : Rd w 5 1 v2 m new) (h1 : ∀ u ∈ new, u.oneCell' = true) (h63 : n + m ≤ 1000000000) (hbase : base ≤ w.heap.size)
    (h : ∀ v' w', Gs w' base 5 1 v' (n + m) (xs ++ new) → (0 < m → w'.ownsRow base 5 1 v' (n + m) (xs ++ new)) → Grew base v w w' → (m = 0 → v' = v ∧ w' = w) → wpList Tryd.prog ops Q rest (a.put o.dst v') w') : wpList Tryd.prog ops Q (o :: rest) a w :=
  wpList_appendS hg s' x' 25 5 ho base zU8 1 1 Tryd.underlying25 infoU8 zcU8 (by decide) v n xs hs hown v2 m new hx hrd h1 h63 (by decide) hbase h
theorem sapsU8 {K : Act → World → Prop} {E : Prop} (s' x' : Operand) (base : Nat) (v : Value) (n : Nat) (xs : List Value) (v2 : Value) (m : Nat) (new : List Value) (hg : o.guard = none)
    (ho : o.op = .call { callee := .builtin .append, args := #[s', x'], argTypes := #[25, 25] }) (hs : a.eval s' = v) (hx : a.eval x' = v2)
    (hown : Gs w base 5 1 v n xs) (hrd : Rd w 5 1 v2 m new) (h1 : ∀ u ∈ new, u.oneCell' = true) (h63 : n + m ≤ 1000000000) (hbase : base ≤ w.heap.size)
    (h : ∀ v' w', Gs w' base 5 1 v' (n + m) (xs ++ new) → (0 < m → w'.ownsRow base 5 1 v' (n + m) (xs ++ new)) → Grew base v w w' → (m = 0 → v' = v ∧ w' = w) → K (a.put o.dst v') w') :
    if Region.wanted o (yielded ops a.tmps) = true then Oper.wp Tryd.prog o a w K Q else E :=
  step_appendS hg s' x' 25 5 ho base zU8 1 1 Tryd.underlying25 infoU8 zcU8 (by decide) v n xs hs hown v2 m new hx hrd h1 h63 (by decide) hbase h

theorem zcInt : zInt.cells.size = 1 := by decide
theorem apsInt (s' x' : Operand) (base : Nat) (v : Value) (n : Nat) (xs : List Value) (v2 : Value) (m : Nat) (new : List Value) (hg : o.guard = none)
    (ho : o.op = .call { callee := .builtin .append, args := #[s', x'], argTypes := #[40, 40] }) (hs : a.eval s' = v) (hx : a.eval x' = v2)
    (hown : Gs w base 3 1 v n xs) (hrd : Rd w 3 1 v2 m new) (h1 : ∀ u ∈ new, u.oneCell' = true) (h63 : n + m ≤ 1000000000) (hbase : base ≤ w.heap.size)
    (h : ∀ v' w', Gs w' base 3 1 v' (n + m) (xs ++ new) → (0 < m → w'.ownsRow base 3 1 v' (n + m) (xs ++ new)) → Grew base v w w' → (m = 0 → v' = v ∧ w' = w) → wpList Tryd.prog ops Q rest (a.put o.dst v') w') : wpList Tryd.prog ops Q (o :: rest) a w :=
  wpList_appendS hg s' x' 40 3 ho base zInt 1 8 Tryd.underlying40 infoInt zcInt (by decide) v n xs hs hown v2 m new hx hrd h1 h63 (by decide) hbase h
theorem sapsInt {K : Act → World → Prop} {E : Prop} (s' x' : Operand) (base : Nat) (v : Value) (n : Nat) (xs : List Value) (v2 : Value) (m : Nat) (new : List Value) (hg : o.guard = none)
    (ho : o.op = .call { callee := .builtin .append, args := #[s', x'], argTypes := #[40, 40] }) (hs : a.eval s' = v) (hx : a.eval x' = v2)
    (hown : Gs w base 3 1 v n xs) (hrd : Rd w 3 1 v2 m new) (h1 : ∀ u ∈ new, u.oneCell' = true) (h63 : n + m ≤ 1000000000) (hbase : base ≤ w.heap.size)
    (h : ∀ v' w', Gs w' base 3 1 v' (n + m) (xs ++ new) → (0 < m → w'.ownsRow base 3 1 v' (n + m) (xs ++ new)) → Grew base v w w' → (m = 0 → v' = v ∧ w' = w) → K (a.put o.dst v') w') :
    if Region.wanted o (yielded ops a.tmps) = true then Oper.wp Tryd.prog o a w K Q else E :=
  step_appendS hg s' x' 40 3 ho base zInt 1 8 Tryd.underlying40 infoInt zcInt (by decide) v n xs hs hown v2 m new hx hrd h1 h63 (by decide) hbase h

theorem zcID : zID.cells.size = 32 := by decide
theorem apsID (s' x' : Operand) (base : Nat) (v : Value) (n : Nat) (xs : List Value) (v2 : Value) (m : Nat) (new : List Value) (hg : o.guard = none)
    (ho : o.op = .call { callee := .builtin .append, args := #[s', x'], argTypes := #[51, 51] }) (hs : a.eval s' = v) (hx : a.eval x' = v2)
    (hown : Gs w base 24 32 v n xs) (hrd : Rd w 24 32 v2 m new) (h1 : ∀ u ∈ new, u.oneCell' = true) (h63 : n + m ≤ 1000000000) (hbase : base ≤ w.heap.size)
    (h : ∀ v' w', Gs w' base 24 32 v' (n + m) (xs ++ new) → (0 < m → w'.ownsRow base 24 32 v' (n + m) (xs ++ new)) → Grew base v w w' → (m = 0 → v' = v ∧ w' = w) → wpList Tryd.prog ops Q rest (a.put o.dst v') w') : wpList Tryd.prog ops Q (o :: rest) a w :=
  wpList_appendS hg s' x' 51 24 ho base zID 32 32 Tryd.underlying51 infoID zcID (by decide) v n xs hs hown v2 m new hx hrd h1 h63 (by decide) hbase h
theorem sapsID {K : Act → World → Prop} {E : Prop} (s' x' : Operand) (base : Nat) (v : Value) (n : Nat) (xs : List Value) (v2 : Value) (m : Nat) (new : List Value) (hg : o.guard = none)
    (ho : o.op = .call { callee := .builtin .append, args := #[s', x'], argTypes := #[51, 51] }) (hs : a.eval s' = v) (hx : a.eval x' = v2)
    (hown : Gs w base 24 32 v n xs) (hrd : Rd w 24 32 v2 m new) (h1 : ∀ u ∈ new, u.oneCell' = true) (h63 : n + m ≤ 1000000000) (hbase : base ≤ w.heap.size)
    (h : ∀ v' w', Gs w' base 24 32 v' (n + m) (xs ++ new) → (0 < m → w'.ownsRow base 24 32 v' (n + m) (xs ++ new)) → Grew base v w w' → (m = 0 → v' = v ∧ w' = w) → K (a.put o.dst v') w') :
    if Region.wanted o (yielded ops a.tmps) = true then Oper.wp Tryd.prog o a w K Q else E :=
  step_appendS hg s' x' 51 24 ho base zID 32 32 Tryd.underlying51 infoID zcID (by decide) v n xs hs hown v2 m new hx hrd h1 h63 (by decide) hbase h

theorem zcPt : zPt.cells.size = 33 := by decide
theorem apsPt (s' x' : Operand) (base : Nat) (v : Value) (n : Nat) (xs : List Value) (v2 : Value) (m : Nat) (new : List Value) (hg : o.guard = none)
    (ho : o.op = .call { callee := .builtin .append, args := #[s', x'], argTypes := #[58, 58] }) (hs : a.eval s' = v) (hx : a.eval x' = v2)
    (hown : Gs w base 61 33 v n xs) (hrd : Rd w 61 33 v2 m new) (h1 : ∀ u ∈ new, u.oneCell' = true) (h63 : n + m ≤ 1000000000) (hbase : base ≤ w.heap.size)
    (h : ∀ v' w', Gs w' base 61 33 v' (n + m) (xs ++ new) → (0 < m → w'.ownsRow base 61 33 v' (n + m) (xs ++ new)) → Grew base v w w' → (m = 0 → v' = v ∧ w' = w) → wpList Tryd.prog ops Q rest (a.put o.dst v') w') : wpList Tryd.prog ops Q (o :: rest) a w :=
  wpList_appendS hg s' x' 58 61 ho base zPt 33 36 Tryd.underlying58 infoPt zcPt (by decide) v n xs hs hown v2 m new hx hrd h1 h63 (by decide) hbase h
theorem sapsPt {K : Act → World → Prop} {E : Prop} (s' x' : Operand) (base : Nat) (v : Value) (n : Nat) (xs : List Value) (v2 : Value) (m : Nat) (new : List Value) (hg : o.guard = none)
    (ho : o.op = .call { callee := .builtin .append, args := #[s', x'], argTypes := #[58, 58] }) (hs : a.eval s' = v) (hx : a.eval x' = v2)
    (hown : Gs w base 61 33 v n xs) (hrd : Rd w 61 33 v2 m new) (h1 : ∀ u ∈ new, u.oneCell' = true) (h63 : n + m ≤ 1000000000) (hbase : base ≤ w.heap.size)
    (h : ∀ v' w', Gs w' base 61 33 v' (n + m) (xs ++ new) → (0 < m → w'.ownsRow base 61 33 v' (n + m) (xs ++ new)) → Grew base v w w' → (m = 0 → v' = v ∧ w' = w) → K (a.put o.dst v') w') :
    if Region.wanted o (yielded ops a.tmps) = true then Oper.wp Tryd.prog o a w K Q else E :=
  step_appendS hg s' x' 58 61 ho base zPt 33 36 Tryd.underlying58 infoPt zcPt (by decide) v n xs hs hown v2 m new hx hrd h1 h63 (by decide) hbase h

theorem zcIn : zIn.cells.size = 36 := by decide
theorem apsIn (s' x' : Operand) (base : Nat) (v : Value) (n : Nat) (xs : List Value) (v2 : Value) (m : Nat) (new : List Value) (hg : o.guard = none)
    (ho : o.op = .call { callee := .builtin .append, args := #[s', x'], argTypes := #[29, 29] }) (hs : a.eval s' = v) (hx : a.eval x' = v2)
    (hown : Gs w base 28 36 v n xs) (hrd : Rd w 28 36 v2 m new) (h1 : ∀ u ∈ new, u.oneCell' = true) (h63 : n + m ≤ 1000000000) (hbase : base ≤ w.heap.size)
    (h : ∀ v' w', Gs w' base 28 36 v' (n + m) (xs ++ new) → (0 < m → w'.ownsRow base 28 36 v' (n + m) (xs ++ new)) → Grew base v w w' → (m = 0 → v' = v ∧ w' = w) → wpList Tryd.prog ops Q rest (a.put o.dst v') w') : wpList Tryd.prog ops Q (o :: rest) a w :=
  wpList_appendS hg s' x' 29 28 ho base zIn 36 96 Tryd.underlying29 infoIn zcIn (by decide) v n xs hs hown v2 m new hx hrd h1 h63 (by decide) hbase h
theorem sapsIn {K : Act → World → Prop} {E : Prop} (s' x' : Operand) (base : Nat) (v : Value) (n : Nat) (xs : List Value) (v2 : Value) (m : Nat) (new : List Value) (hg : o.guard = none)
    (ho : o.op = .call { callee := .builtin .append, args := #[s', x'], argTypes := #[29, 29] }) (hs : a.eval s' = v) (hx : a.eval x' = v2)
    (hown : Gs w base 28 36 v n xs) (hrd : Rd w 28 36 v2 m new) (h1 : ∀ u ∈ new, u.oneCell' = true) (h63 : n + m ≤ 1000000000) (hbase : base ≤ w.heap.size)
    (h : ∀ v' w', Gs w' base 28 36 v' (n + m) (xs ++ new) → (0 < m → w'.ownsRow base 28 36 v' (n + m) (xs ++ new)) → Grew base v w w' → (m = 0 → v' = v ∧ w' = w) → K (a.put o.dst v') w') :
    if Region.wanted o (yielded ops a.tmps) = true then Oper.wp Tryd.prog o a w K Q else E :=
  step_appendS hg s' x' 29 28 ho base zIn 36 96 Tryd.underlying29 infoIn zcIn (by decide) v n xs hs hown v2 m new hx hrd h1 h63 (by decide) hbase h

theorem zcOut : zOut.cells.size = 2 := by decide
theorem apsOut (s' x' : Operand) (base : Nat) (v : Value) (n : Nat) (xs : List Value) (v2 : Value) (m : Nat) (new : List Value) (hg : o.guard = none)
    (ho : o.op = .call { callee := .builtin .append, args := #[s', x'], argTypes := #[30, 30] }) (hs : a.eval s' = v) (hx : a.eval x' = v2)
    (hown : Gs w base 34 2 v n xs) (hrd : Rd w 34 2 v2 m new) (h1 : ∀ u ∈ new, u.oneCell' = true) (h63 : n + m ≤ 1000000000) (hbase : base ≤ w.heap.size)
    (h : ∀ v' w', Gs w' base 34 2 v' (n + m) (xs ++ new) → (0 < m → w'.ownsRow base 34 2 v' (n + m) (xs ++ new)) → Grew base v w w' → (m = 0 → v' = v ∧ w' = w) → wpList Tryd.prog ops Q rest (a.put o.dst v') w') : wpList Tryd.prog ops Q (o :: rest) a w :=
  wpList_appendS hg s' x' 30 34 ho base zOut 2 32 Tryd.underlying30 infoOut zcOut (by decide) v n xs hs hown v2 m new hx hrd h1 h63 (by decide) hbase h
theorem sapsOut {K : Act → World → Prop} {E : Prop} (s' x' : Operand) (base : Nat) (v : Value) (n : Nat) (xs : List Value) (v2 : Value) (m : Nat) (new : List Value) (hg : o.guard = none)
    (ho : o.op = .call { callee := .builtin .append, args := #[s', x'], argTypes := #[30, 30] }) (hs : a.eval s' = v) (hx : a.eval x' = v2)
    (hown : Gs w base 34 2 v n xs) (hrd : Rd w 34 2 v2 m new) (h1 : ∀ u ∈ new, u.oneCell' = true) (h63 : n + m ≤ 1000000000) (hbase : base ≤ w.heap.size)
    (h : ∀ v' w', Gs w' base 34 2 v' (n + m) (xs ++ new) → (0 < m → w'.ownsRow base 34 2 v' (n + m) (xs ++ new)) → Grew base v w w' → (m = 0 → v' = v ∧ w' = w) → K (a.put o.dst v') w') :
    if Region.wanted o (yielded ops a.tmps) = true then Oper.wp Tryd.prog o a w K Q else E :=
  step_appendS hg s' x' 30 34 ho base zOut 2 32 Tryd.underlying30 infoOut zcOut (by decide) v n xs hs hown v2 m new hx hrd h1 h63 (by decide) hbase h

theorem apU8 {o1 o2 : Oper} (s' x' : Operand) (d1 : Nat) (base : Nat) (v : Value) (n : Nat) (xs : List Value) (i : Int) (hg1 : o1.guard = none) (hg2 : o2.guard = none) (hd1 : o1.dst = some d1)
    (ho1 : o1.op = .buildSlice 25 1 #[(0, x')]) (ho2 : o2.op = .call { callee := .builtin .append, args := #[s', .tmp d1], argTypes := #[25, 25] })
    (hsz : Nat.blt d1 a.tmps.size = true) (hs0 : (a.put (some d1) (.slice (some ⟨w.heap.size, 0, none⟩) 1 1)).eval s' = a.eval s') (hs : a.eval s' = v) (hx : a.eval x' = .int .u8 i)
    (hown : Gs w base 5 1 v n xs) (h63 : n + 1 ≤ 1000000000) (hbase : base ≤ w.heap.size)
    (h : ∀ v' w', w'.ownsRow base 5 1 v' (n + 1) (xs ++ [.int .u8 i]) → Grew base v w w' →
      wpList Tryd.prog ops Q rest ((a.put (some d1) (.slice (some ⟨w.heap.size, 0, none⟩) 1 1)).put o2.dst v') w') : wpList Tryd.prog ops Q (o1 :: o2 :: rest) a w :=
  wpList_append1 hg1 hg2 s' x' 25 5 d1 hd1 ho1 ho2 hsz hs0 base zU8 1 1 Tryd.underlying25 infoU8 zcU8 (by decide) (by decide) v n xs hs hown [.int .u8 i] (by rw [hx]; rfl) rfl (by simp; rfl) h63 (by decide) hbase h

theorem apInt {o1 o2 : Oper} (s' x' : Operand) (d1 : Nat) (base : Nat) (v : Value) (n : Nat) (xs : List Value) (i : Int) (hg1 : o1.guard = none) (hg2 : o2.guard = none) (hd1 : o1.dst = some d1)
    (ho1 : o1.op = .buildSlice 40 1 #[(0, x')]) (ho2 : o2.op = .call { callee := .builtin .append, args := #[s', .tmp d1], argTypes := #[40, 40] })
    (hsz : Nat.blt d1 a.tmps.size = true) (hs0 : (a.put (some d1) (.slice (some ⟨w.heap.size, 0, none⟩) 1 1)).eval s' = a.eval s') (hs : a.eval s' = v) (hx : a.eval x' = .int .i64 i)
    (hown : Gs w base 3 1 v n xs) (h63 : n + 1 ≤ 1000000000) (hbase : base ≤ w.heap.size)
    (h : ∀ v' w', w'.ownsRow base 3 1 v' (n + 1) (xs ++ [.int .i64 i]) → Grew base v w w' →
      wpList Tryd.prog ops Q rest ((a.put (some d1) (.slice (some ⟨w.heap.size, 0, none⟩) 1 1)).put o2.dst v') w') : wpList Tryd.prog ops Q (o1 :: o2 :: rest) a w :=
  wpList_append1 hg1 hg2 s' x' 40 3 d1 hd1 ho1 ho2 hsz hs0 base zInt 1 8 Tryd.underlying40 infoInt zcInt (by decide) (by decide) v n xs hs hown [.int .i64 i] (by rw [hx]; rfl) rfl (by simp; rfl) h63 (by decide) hbase h

theorem conv_iu (n : Int) (h0 : 0 ≤ n) (h1 : n < 4611686018427387904) (w : World) : (convert 3 22 (.int .i64 n)).run Tryd.prog w = .ok (.int .u64 n) w := by
  have := Tryd.underlying3
  have := Tryd.underlying22
  simp [convert, go_sem, *]
  exact IntWalk.u64_in n ⟨h0, by omega⟩
theorem run_build_pt (x : ID) (n : Int) (w : World) : (Instr.build 61 #[(0, .agg (idc x).toArray), (1, .int .u32 n)]).run Tryd.prog w = .ok (.agg (ptc ⟨x, n⟩).toArray) w := by
  obtain ⟨l, h⟩ := x
  match l, h with
  | [a0, a1, a2, a3, a4, a5, a6, a7, a8, a9, a10, a11, a12, a13, a14, a15, a16, a17, a18, a19, a20, a21, a22, a23, a24, a25, a26, a27, a28, a29, a30, a31], _ => show _ = _; kernel_rfl
theorem buPt (x' y' : Operand) (x : ID) (n : Int) (hg : o.guard = none) (ho : o.op = .build 61 #[(0, x'), (1, y')]) (hx : a.eval x' = .agg (idc x).toArray) (hy : a.eval y' = .int .u32 n)
    (h : wpList Tryd.prog ops Q rest (a.put o.dst (.agg (ptc ⟨x, n⟩).toArray)) w) : wpList Tryd.prog ops Q (o :: rest) a w :=
  wpList_buildV hg 61 _ ho [(0, .agg (idc x).toArray), (1, .int .u32 n)] (by simp [hx, hy]) _ (run_build_pt x n w) h
end Go.Proofs.YtdpobhcpmpfioaaDoor

/-! Arrays of words in a block; a word turned right. -/
namespace Go.Proofs.YtdpobhcpmpfioaaDoor
open Go.RowKit

abbrev kc (k : IntKind) (A : List Int) : List Value := A.map (Value.int k)
abbrev wc (A : List Int) : List Value := kc .u32 A
/-- a block that holds an array of numbers -/
def WA (k : IntKind) (w : World) (b : Nat) (T : TypeId) (A : List Int) : Prop := w.heap[b]? = some (.cells (kc k A).toArray T (0, 0))
section
variable {k : IntKind} {w w' : World} {B b : Nat} {T : TypeId} {A : List Int}
theorem WA.hp (h : WA k w b T A) : w.heap[b]? = some (.cells (kc k A).toArray T (0, 0)) := h
theorem WA.cell (h : WA k w b T A) {j : Nat} (hj : j < A.length) : w.cell? ⟨b, j, none⟩ = some (.int k (A.getD j 0)) := by
  rw [cell_of_row w b j _ _ _ h]
  simp [List.getElem?_eq_getElem hj]
theorem WA.frozen (h : WA k w b T A) (j : Nat) : w.frozen? ⟨b, j, none⟩ = false := by
  unfold WA at h
  simp [World.frozen?, h]
theorem WA.range (h : WA k w b T A) : w.rangeAt b 0 (kc k A) := by
  intro j u hu
  rw [Nat.zero_add, cell_of_row w b j _ _ _ h]
  simpa using hu
theorem WA.lt (h : WA k w b T A) : b < w.heap.size := (Array.getElem?_eq_some_iff.1 h).1
theorem WA.set (h : WA k w b T A) (j : Nat) (x : Int) : WA k (w.setCell ⟨b, j, none⟩ (.int k x)) b T (A.set j x) := by
  have hlt := h.lt
  unfold WA at h ⊢
  simp [World.setCell, Array.getElem?_modify, h, List.map_set]
theorem WA.other (h : WA k w b T A) (p : Addr) (v : Value) (hp : b ≠ p.block) : WA k (w.setCell p v) b T A := (Below.heap_setCell w p v b hp).trans h
theorem WA.belowB (h : WA k w b T A) (hb : Below B w w') (hB : b < B) : WA k w' b T A := (hb.block b hB).trans h
theorem WA.below (h : WA k w b T A) (hb : Below w.heap.size w w') : WA k w' b T A := h.belowB hb h.lt
theorem WA.alloc (h : WA k w b T A) (o : Obj) : WA k (w.alloc o) b T A := (Below.heap_alloc w o b h.lt).trans h
theorem WA.setRow (h : WA k w b T A) (A' : List Int) : WA k (w.setRow b (kc k A').toArray) b T A' := setRow_heap w b _ _ T _ h
theorem setRow_other (w : World) (g b : Nat) (c : Array Value) (hb : b ≠ g) : (w.setRow g c).heap[b]? = w.heap[b]? := by
  simp only [World.setRow, Array.getElem?_modify]
  rw [if_neg (by omega)]
theorem WA.setRowOther (h : WA k w b T A) (g : Nat) (c : Array Value) (hb : b ≠ g) : WA k (w.setRow g c) b T A := (setRow_other w g b c hb).trans h
end
theorem Below.setRow {B : Nat} {a w : World} (h : Below B a w) {g : Nat} (hg : B ≤ g) (c : Array Value) : Below B a (w.setRow g c) :=
  h.trans ⟨rfl, rfl, rfl, by simp [World.setRow], fun k hk => setRow_other w g k c (by omega)⟩
theorem WA.new (k : IntKind) (w : World) (T : TypeId) (A : List Int) : WA k (w.alloc (.cells (kc k A).toArray T)) w.heap.size T A := heap_alloc_new w _
theorem kc_one (k : IntKind) (A : List Int) : (kc k A).toArray.all (·.oneCell') = true := by
  apply all_oneCell_toArray
  intro v hv
  obtain ⟨n, _, rfl⟩ := List.mem_map.1 hv
  rfl
/-! A whole array of numbers out of, into, its block; and as a result. -/
section
variable {P : Program} {ops : Array Oper} {rest : List Oper} {o : Oper} {a : Act} {w : World} {Q : Exit → Act → World → Prop}
theorem wpList_ldA (ty : TypeId) (x : Operand) (k : IntKind) (g : Nat) (T : TypeId) (A : List Int) (n : Nat) (e : TypeId) (hg : o.guard = none) (ho : o.op = .load ty x) (hx : a.eval x = .pointer (some ⟨g, 0, none⟩)) (hr : WA k w g T A)
    (hu : P.underlying ty = some (.array n e)) (hi : (P.info? ty).map (·.size) = some n) (hn : A.length = n)
    (h : wpList P ops Q rest (a.put o.dst (.agg (kc k A).toArray)) w) : wpList P ops Q (o :: rest) a w :=
  wpList_load_row hg ty x ho g hx T _ (0, 0) _ hr.hp hu rfl (by simpa [hn] using hi) h
theorem wpList_stA (ty : TypeId) (x y : Operand) (k : IntKind) (g : Nat) (T : TypeId) (A A' : List Int) (n : Nat) (hg : o.guard = none) (ho : o.op = .store ty x y) (hx : a.eval x = .pointer (some ⟨g, 0, none⟩)) (hr : WA k w g T A)
    (hy : a.eval y = .agg (kc k A').toArray) (hi : (P.info? ty).map (·.size) = some n) (hn : A.length = n) (hn' : A'.length = n)
    (h : wpList P ops Q rest (a.put o.dst undef) (w.setRow g (kc k A').toArray)) : wpList P ops Q (o :: rest) a w :=
  wpList_store_row hg ty x y ho g _ hx hy T _ hr.hp (by simpa [hn'] using hi) (by simp [hn, hn']) (kc_one k A') h
theorem results_A {fn : Func} {p : Tmp} {ty : TypeId} (h : fn.results = #[.cell p ty]) (tmps : Array Value) (g : Nat) (k : IntKind) (T : TypeId) (A : List Int) (n : Nat) (e : TypeId)
    (hp : tmps.getD p undef = .pointer (some ⟨g, 0, none⟩)) (hr : WA k w g T A)
    (hu : P.underlying ty = some (.array n e)) (hi : (P.info? ty).map (·.size) = some n) (hn : A.length = n) :
    (results fn tmps).run P w = .ok (.agg (kc k A).toArray) w :=
  results_cell_row h tmps w g T _ (0, 0) _ hp hr.hp hu rfl (by simpa [hn] using hi)
end
theorem sz64 : (Tryd.prog.info? 104).map (·.size) = some 64 := by kernel_rfl
theorem sz8 : (Tryd.prog.info? 91).map (·.size) = some 8 := by kernel_rfl
theorem cellB {B : Nat} {w w' : World} (h : Below B w w') {p : Addr} {v : Value} (hc : w.cell? p = some v) (hp : p.block < B) : w'.cell? p = some v := (h.cell hp).trans hc
theorem wrapN (n : Int) (m : Nat) (h : n = (m : Int)) (hm : m < 1000000) : IntKind.i64.wrap n = (m : Int) := by subst h; rw [IntKind.wrap_i64]; omega

def cubesL : List Int := [0x428a2f98, 0x71374491, 0xb5c0fbcf, 0xe9b5dba5, 0x3956c25b, 0x59f111f1, 0x923f82a4, 0xab1c5ed5, 0xd807aa98, 0x12835b01, 0x243185be, 0x550c7dc3, 0x72be5d74, 0x80deb1fe, 0x9bdc06a7, 0xc19bf174, 0xe49b69c1, 0xefbe4786, 0x0fc19dc6, 0x240ca1cc, 0x2de92c6f, 0x4a7484aa, 0x5cb0a9dc, 0x76f988da, 0x983e5152, 0xa831c66d, 0xb00327c8, 0xbf597fc7, 0xc6e00bf3, 0xd5a79147, 0x06ca6351, 0x14292967, 0x27b70a85, 0x2e1b2138, 0x4d2c6dfc, 0x53380d13, 0x650a7354, 0x766a0abb, 0x81c2c92e, 0x92722c85, 0xa2bfe8a1, 0xa81a664b, 0xc24b8b70, 0xc76c51a3, 0xd192e819, 0xd6990624, 0xf40e3585, 0x106aa070, 0x19a4c116, 0x1e376c08, 0x2748774c, 0x34b0bcb5, 0x391c0cb3, 0x4ed8aa4a, 0x5b9cca4f, 0x682e6ff3, 0x748f82ee, 0x78a5636f, 0x84c87814, 0x8cc70208, 0x90befffa, 0xa4506ceb, 0xbef9a3f7, 0xc67178f2]
def squaresL : List Int := [0x6a09e667, 0xbb67ae85, 0x3c6ef372, 0xa54ff53a, 0x510e527f, 0x9b05688c, 0x1f83d9ab, 0x5be0cd19]
theorem cubesL_length : cubesL.length = 64 := by decide
/-- a block that holds an array of words, of whatever type's mark -/
def WL (w : World) (b : Nat) (A : List Int) : Prop := ∃ T, WA .u32 w b T A
section
variable {w w' : World} {B b : Nat} {A : List Int}
theorem WL.lt : WL w b A → b < w.heap.size := fun ⟨_, h⟩ => h.lt
theorem WL.cell (h : WL w b A) {j : Nat} (hj : j < A.length) : w.cell? ⟨b, j, none⟩ = some (.int .u32 (A.getD j 0)) := by obtain ⟨_, h⟩ := h; exact h.cell hj
theorem WL.belowB (h : WL w b A) (hb : Below B w w') (hB : b < B) : WL w' b A := by obtain ⟨T, h⟩ := h; exact ⟨T, h.belowB hb hB⟩
theorem WL.below (h : WL w b A) (hb : Below w.heap.size w w') : WL w' b A := h.belowB hb h.lt
theorem WL.setRowOther (h : WL w b A) (g : Nat) (c : Array Value) (hb : b ≠ g) : WL (w.setRow g c) b A := by obtain ⟨T, h⟩ := h; exact ⟨T, h.setRowOther g c hb⟩
theorem WL.other (h : WL w b A) (p : Addr) (v : Value) (hp : b ≠ p.block) : WL (w.setCell p v) b A := by obtain ⟨T, h⟩ := h; exact ⟨T, h.other p v hp⟩
end
def GL (w : World) : Prop := WL w 1 cubesL ∧ WL w 0 squaresL
attribute [irreducible] cubesL
theorem GL.below {w w' : World} (h : GL w) (hb : Below w.heap.size w w') : GL w' := ⟨h.1.below hb, h.2.below hb⟩
def rotI (x : Int) (n : Nat) : Int := bits .or .u32 (IntKind.u32.wrap (x * 2 ^ (32 - n))) (x / 2 ^ n)
theorem rotl_2 (x : Int) (w : World) :
    Calls Tryd.prog 79 #[.int .u32 x, .int .i64 (-2)] w fun e w' => e = .returned (.int .u32 (rotI x 2)) ∧ w' = w := by
  have e : bits BinOp.and IntKind.u64 (IntKind.u64.wrap (-2)) 31 = 30 := by decide
  go_enter Tryd.func79, Tryd.ntmps79
  go_wp2_with fail
  go_ret
  exact ⟨rfl, rfl⟩
theorem turned_2 (x : Int) (w : World) :
    Calls Tryd.prog 64 #[.int .u32 x, .int .i64 2] w fun e w' => e = .returned (.int .u32 (rotI x 2)) ∧ w' = w := by
  go_enter Tryd.func64, Tryd.ntmps64
  go_wp2_with fail
  refine (rotl_2 x w).mono ?_
  rintro e w1 ⟨rfl, rfl⟩
  go_wp2_with fail
  go_ret
  exact ⟨rfl, rfl⟩
theorem rotl_6 (x : Int) (w : World) :
    Calls Tryd.prog 79 #[.int .u32 x, .int .i64 (-6)] w fun e w' => e = .returned (.int .u32 (rotI x 6)) ∧ w' = w := by
  have e : bits BinOp.and IntKind.u64 (IntKind.u64.wrap (-6)) 31 = 26 := by decide
  go_enter Tryd.func79, Tryd.ntmps79
  go_wp2_with fail
  go_ret
  exact ⟨rfl, rfl⟩
theorem turned_6 (x : Int) (w : World) :
    Calls Tryd.prog 64 #[.int .u32 x, .int .i64 6] w fun e w' => e = .returned (.int .u32 (rotI x 6)) ∧ w' = w := by
  go_enter Tryd.func64, Tryd.ntmps64
  go_wp2_with fail
  refine (rotl_6 x w).mono ?_
  rintro e w1 ⟨rfl, rfl⟩
  go_wp2_with fail
  go_ret
  exact ⟨rfl, rfl⟩
theorem rotl_7 (x : Int) (w : World) :
    Calls Tryd.prog 79 #[.int .u32 x, .int .i64 (-7)] w fun e w' => e = .returned (.int .u32 (rotI x 7)) ∧ w' = w := by
  have e : bits BinOp.and IntKind.u64 (IntKind.u64.wrap (-7)) 31 = 25 := by decide
  go_enter Tryd.func79, Tryd.ntmps79
  go_wp2_with fail
  go_ret
  exact ⟨rfl, rfl⟩
theorem turned_7 (x : Int) (w : World) :
    Calls Tryd.prog 64 #[.int .u32 x, .int .i64 7] w fun e w' => e = .returned (.int .u32 (rotI x 7)) ∧ w' = w := by
  go_enter Tryd.func64, Tryd.ntmps64
  go_wp2_with fail
  refine (rotl_7 x w).mono ?_
  rintro e w1 ⟨rfl, rfl⟩
  go_wp2_with fail
  go_ret
  exact ⟨rfl, rfl⟩
theorem rotl_11 (x : Int) (w : World) :
    Calls Tryd.prog 79 #[.int .u32 x, .int .i64 (-11)] w fun e w' => e = .returned (.int .u32 (rotI x 11)) ∧ w' = w := by
  have e : bits BinOp.and IntKind.u64 (IntKind.u64.wrap (-11)) 31 = 21 := by decide
  go_enter Tryd.func79, Tryd.ntmps79
  go_wp2_with fail
  go_ret
  exact ⟨rfl, rfl⟩
theorem turned_11 (x : Int) (w : World) :
    Calls Tryd.prog 64 #[.int .u32 x, .int .i64 11] w fun e w' => e = .returned (.int .u32 (rotI x 11)) ∧ w' = w := by
  go_enter Tryd.func64, Tryd.ntmps64
  go_wp2_with fail
  refine (rotl_11 x w).mono ?_
  rintro e w1 ⟨rfl, rfl⟩
  go_wp2_with fail
  go_ret
  exact ⟨rfl, rfl⟩
theorem rotl_13 (x : Int) (w : World) :
    Calls Tryd.prog 79 #[.int .u32 x, .int .i64 (-13)] w fun e w' => e = .returned (.int .u32 (rotI x 13)) ∧ w' = w := by
  have e : bits BinOp.and IntKind.u64 (IntKind.u64.wrap (-13)) 31 = 19 := by decide
  go_enter Tryd.func79, Tryd.ntmps79
  go_wp2_with fail
  go_ret
  exact ⟨rfl, rfl⟩
theorem turned_13 (x : Int) (w : World) :
    Calls Tryd.prog 64 #[.int .u32 x, .int .i64 13] w fun e w' => e = .returned (.int .u32 (rotI x 13)) ∧ w' = w := by
  go_enter Tryd.func64, Tryd.ntmps64
  go_wp2_with fail
  refine (rotl_13 x w).mono ?_
  rintro e w1 ⟨rfl, rfl⟩
  go_wp2_with fail
  go_ret
  exact ⟨rfl, rfl⟩
theorem rotl_17 (x : Int) (w : World) :
    Calls Tryd.prog 79 #[.int .u32 x, .int .i64 (-17)] w fun e w' => e = .returned (.int .u32 (rotI x 17)) ∧ w' = w := by
  have e : bits BinOp.and IntKind.u64 (IntKind.u64.wrap (-17)) 31 = 15 := by decide
  go_enter Tryd.func79, Tryd.ntmps79
  go_wp2_with fail
  go_ret
  exact ⟨rfl, rfl⟩
theorem turned_17 (x : Int) (w : World) :
    Calls Tryd.prog 64 #[.int .u32 x, .int .i64 17] w fun e w' => e = .returned (.int .u32 (rotI x 17)) ∧ w' = w := by
  go_enter Tryd.func64, Tryd.ntmps64
  go_wp2_with fail
  refine (rotl_17 x w).mono ?_
  rintro e w1 ⟨rfl, rfl⟩
  go_wp2_with fail
  go_ret
  exact ⟨rfl, rfl⟩
theorem rotl_18 (x : Int) (w : World) :
    Calls Tryd.prog 79 #[.int .u32 x, .int .i64 (-18)] w fun e w' => e = .returned (.int .u32 (rotI x 18)) ∧ w' = w := by
  have e : bits BinOp.and IntKind.u64 (IntKind.u64.wrap (-18)) 31 = 14 := by decide
  go_enter Tryd.func79, Tryd.ntmps79
  go_wp2_with fail
  go_ret
  exact ⟨rfl, rfl⟩
theorem turned_18 (x : Int) (w : World) :
    Calls Tryd.prog 64 #[.int .u32 x, .int .i64 18] w fun e w' => e = .returned (.int .u32 (rotI x 18)) ∧ w' = w := by
  go_enter Tryd.func64, Tryd.ntmps64
  go_wp2_with fail
  refine (rotl_18 x w).mono ?_
  rintro e w1 ⟨rfl, rfl⟩
  go_wp2_with fail
  go_ret
  exact ⟨rfl, rfl⟩
theorem rotl_19 (x : Int) (w : World) :
    Calls Tryd.prog 79 #[.int .u32 x, .int .i64 (-19)] w fun e w' => e = .returned (.int .u32 (rotI x 19)) ∧ w' = w := by
  have e : bits BinOp.and IntKind.u64 (IntKind.u64.wrap (-19)) 31 = 13 := by decide
  go_enter Tryd.func79, Tryd.ntmps79
  go_wp2_with fail
  go_ret
  exact ⟨rfl, rfl⟩
theorem turned_19 (x : Int) (w : World) :
    Calls Tryd.prog 64 #[.int .u32 x, .int .i64 19] w fun e w' => e = .returned (.int .u32 (rotI x 19)) ∧ w' = w := by
  go_enter Tryd.func64, Tryd.ntmps64
  go_wp2_with fail
  refine (rotl_19 x w).mono ?_
  rintro e w1 ⟨rfl, rfl⟩
  go_wp2_with fail
  go_ret
  exact ⟨rfl, rfl⟩
theorem rotl_22 (x : Int) (w : World) :
    Calls Tryd.prog 79 #[.int .u32 x, .int .i64 (-22)] w fun e w' => e = .returned (.int .u32 (rotI x 22)) ∧ w' = w := by
  have e : bits BinOp.and IntKind.u64 (IntKind.u64.wrap (-22)) 31 = 10 := by decide
  go_enter Tryd.func79, Tryd.ntmps79
  go_wp2_with fail
  go_ret
  exact ⟨rfl, rfl⟩
theorem turned_22 (x : Int) (w : World) :
    Calls Tryd.prog 64 #[.int .u32 x, .int .i64 22] w fun e w' => e = .returned (.int .u32 (rotI x 22)) ∧ w' = w := by
  go_enter Tryd.func64, Tryd.ntmps64
  go_wp2_with fail
  refine (rotl_22 x w).mono ?_
  rintro e w1 ⟨rfl, rfl⟩
  go_wp2_with fail
  go_ret
  exact ⟨rfl, rfl⟩
theorem rotl_25 (x : Int) (w : World) :
    Calls Tryd.prog 79 #[.int .u32 x, .int .i64 (-25)] w fun e w' => e = .returned (.int .u32 (rotI x 25)) ∧ w' = w := by
  have e : bits BinOp.and IntKind.u64 (IntKind.u64.wrap (-25)) 31 = 7 := by decide
  go_enter Tryd.func79, Tryd.ntmps79
  go_wp2_with fail
  go_ret
  exact ⟨rfl, rfl⟩
theorem turned_25 (x : Int) (w : World) :
    Calls Tryd.prog 64 #[.int .u32 x, .int .i64 25] w fun e w' => e = .returned (.int .u32 (rotI x 25)) ∧ w' = w := by
  go_enter Tryd.func64, Tryd.ntmps64
  go_wp2_with fail
  refine (rotl_25 x w).mono ?_
  rintro e w1 ⟨rfl, rfl⟩
  go_wp2_with fail
  go_ret
  exact ⟨rfl, rfl⟩
end Go.Proofs.YtdpobhcpmpfioaaDoor

namespace Go.Proofs.YtdpobhcpmpfioaaDoor
open Go.RowKit

theorem CloneB (v : Value) (n : Nat) (cells : List Value) (w : World) (h : Rd w 5 1 v n cells) (h1 : ∀ u ∈ cells, u.oneCell' = true) (hn : n ≤ 1000000) :
    Calls Tryd.prog 22 #[v] w fun e w' => ∃ v', e = .returned v' ∧ w'.ownsRow w.heap.size 5 1 v' n cells ∧ Below w.heap.size w w' := by
  obtain ⟨a, c, rfl, hc1, hc2⟩ := h.form'
  cases a with
  | none =>
    obtain ⟨rfl, _, rfl⟩ := h.nil_of
    have q : ∀ (w : World) (a : Option Addr) (n c n' c' : Nat), (binOp .eql 25 (.slice a n c) (.slice none n' c')).run Tryd.prog w = .ok (.bool a.isNone) w := fun w a n c n' c' => Lib.run_eql_slice_nil w _ _ a n c n' c' Tryd.underlying25
    clear h h1
    go_enter Tryd.func22, Tryd.ntmps22
    go_wp2
    go_ret
    exact ⟨_, rfl, World.ownsRow_nil _ _ _ _, Below.refl _ _⟩
  | some ad =>
    have hs : (w.alloc (.cells #[] 5)).ownsRow w.heap.size 5 1 (.slice (some ⟨w.heap.size, 0, none⟩) 0 0) 0 [] := World.ownsRow_made w #[] 0 (Nat.le_refl _) (by simp [maxLen]) (by simp)
    have hrd := h.alloc (.cells #[] 5)
    have q : ∀ (w : World) (a : Option Addr) (n c n' c' : Nat), (binOp .eql 25 (.slice a n c) (.slice none n' c')).run Tryd.prog w = .ok (.bool a.isNone) w := fun w a n c n' c' => Lib.run_eql_slice_nil w _ _ a n c n' c' Tryd.underlying25
    clear h
    go_enter Tryd.func22, Tryd.ntmps22
    go_wp2_with (with_reducible refine wpList_at 7 ?_; refine apsU8 (.tmp 5) (.tmp 6) w.heap.size (.slice (some ⟨w.heap.size, 0, none⟩) 0 0) 0 [] (.slice (some ad) n c) n cells rfl rfl rfl rfl (Gs.own hs) hrd h1 (by omega) (by simp) ?_; intro v' w1 ho hg hgr hz)
    go_ret
    have hb : Below w.heap.size w w1 := ((Below.refl _ _).alloc (Nat.le_refl _) _).trans (hgr.below (by simp))
    by_cases hn0 : n = 0
    · subst hn0
      obtain ⟨rfl, rfl⟩ := hz rfl
      have : cells = [] := List.eq_nil_of_length_eq_zero (by simpa using hrd.1)
      subst this
      exact ⟨_, rfl, hs, hb⟩
    · exact ⟨_, rfl, by simpa using hg (by omega), hb⟩

theorem CloneI (v : Value) (n : Nat) (cells : List Value) (w : World) (h : Rd w 3 1 v n cells) (h1 : ∀ u ∈ cells, u.oneCell' = true) (hn : n ≤ 1000000) :
    Calls Tryd.prog 44 #[v] w fun e w' => ∃ v', e = .returned v' ∧ w'.ownsRow w.heap.size 3 1 v' n cells ∧ Below w.heap.size w w' := by
  obtain ⟨a, c, rfl, hc1, hc2⟩ := h.form'
  cases a with
  | none =>
    obtain ⟨rfl, _, rfl⟩ := h.nil_of
    have q : ∀ (w : World) (a : Option Addr) (n c n' c' : Nat), (binOp .eql 40 (.slice a n c) (.slice none n' c')).run Tryd.prog w = .ok (.bool a.isNone) w := fun w a n c n' c' => Lib.run_eql_slice_nil w _ _ a n c n' c' Tryd.underlying40
    clear h h1
    go_enter Tryd.func44, Tryd.ntmps44
    go_wp2
    go_ret
    exact ⟨_, rfl, World.ownsRow_nil _ _ _ _, Below.refl _ _⟩
  | some ad =>
    have hs : (w.alloc (.cells #[] 3)).ownsRow w.heap.size 3 1 (.slice (some ⟨w.heap.size, 0, none⟩) 0 0) 0 [] := World.ownsRow_made w #[] 0 (Nat.le_refl _) (by simp [maxLen]) (by simp)
    have hrd := h.alloc (.cells #[] 3)
    have q : ∀ (w : World) (a : Option Addr) (n c n' c' : Nat), (binOp .eql 40 (.slice a n c) (.slice none n' c')).run Tryd.prog w = .ok (.bool a.isNone) w := fun w a n c n' c' => Lib.run_eql_slice_nil w _ _ a n c n' c' Tryd.underlying40
    clear h
    go_enter Tryd.func44, Tryd.ntmps44
    go_wp2_with (with_reducible refine wpList_at 7 ?_; refine apsInt (.tmp 5) (.tmp 6) w.heap.size (.slice (some ⟨w.heap.size, 0, none⟩) 0 0) 0 [] (.slice (some ad) n c) n cells rfl rfl rfl rfl (Gs.own hs) hrd h1 (by omega) (by simp) ?_; intro v' w1 ho hg hgr hz)
    go_ret
    have hb : Below w.heap.size w w1 := ((Below.refl _ _).alloc (Nat.le_refl _) _).trans (hgr.below (by simp))
    by_cases hn0 : n = 0
    · subst hn0
      obtain ⟨rfl, rfl⟩ := hz rfl
      have : cells = [] := List.eq_nil_of_length_eq_zero (by simpa using hrd.1)
      subst this
      exact ⟨_, rfl, hs, hb⟩
    · exact ⟨_, rfl, by simpa using hg (by omega), hb⟩

theorem CloneD (v : Value) (n : Nat) (cells : List Value) (w : World) (h : Rd w 24 32 v n cells) (h1 : ∀ u ∈ cells, u.oneCell' = true) (hn : n ≤ 1000000) :
    Calls Tryd.prog 45 #[v] w fun e w' => ∃ v', e = .returned v' ∧ w'.ownsRow w.heap.size 24 32 v' n cells ∧ Below w.heap.size w w' := by
  obtain ⟨a, c, rfl, hc1, hc2⟩ := h.form'
  cases a with
  | none =>
    obtain ⟨rfl, _, rfl⟩ := h.nil_of
    have q : ∀ (w : World) (a : Option Addr) (n c n' c' : Nat), (binOp .eql 51 (.slice a n c) (.slice none n' c')).run Tryd.prog w = .ok (.bool a.isNone) w := fun w a n c n' c' => Lib.run_eql_slice_nil w _ _ a n c n' c' Tryd.underlying51
    clear h h1
    go_enter Tryd.func45, Tryd.ntmps45
    go_wp2
    go_ret
    exact ⟨_, rfl, World.ownsRow_nil _ _ _ _, Below.refl _ _⟩
  | some ad =>
    have hs : (w.alloc (.cells #[] 24)).ownsRow w.heap.size 24 32 (.slice (some ⟨w.heap.size, 0, none⟩) 0 0) 0 [] := World.ownsRow_made w #[] 0 (Nat.le_refl _) (by simp [maxLen]) (by simp)
    have hrd := h.alloc (.cells #[] 24)
    have q : ∀ (w : World) (a : Option Addr) (n c n' c' : Nat), (binOp .eql 51 (.slice a n c) (.slice none n' c')).run Tryd.prog w = .ok (.bool a.isNone) w := fun w a n c n' c' => Lib.run_eql_slice_nil w _ _ a n c n' c' Tryd.underlying51
    clear h
    go_enter Tryd.func45, Tryd.ntmps45
    go_wp2_with (with_reducible refine wpList_at 7 ?_; refine apsID (.tmp 5) (.tmp 6) w.heap.size (.slice (some ⟨w.heap.size, 0, none⟩) 0 0) 0 [] (.slice (some ad) n c) n cells rfl rfl rfl rfl (Gs.own hs) hrd h1 (by omega) (by simp) ?_; intro v' w1 ho hg hgr hz)
    go_ret
    have hb : Below w.heap.size w w1 := ((Below.refl _ _).alloc (Nat.le_refl _) _).trans (hgr.below (by simp))
    by_cases hn0 : n = 0
    · subst hn0
      obtain ⟨rfl, rfl⟩ := hz rfl
      have : cells = [] := List.eq_nil_of_length_eq_zero (by simpa using hrd.1)
      subst this
      exact ⟨_, rfl, hs, hb⟩
    · exact ⟨_, rfl, by simpa using hg (by omega), hb⟩

theorem ClipB (a : Option Addr) (n c : Nat) (w : World) (hn : n ≤ c) (hc : c ≤ 9223372036854775807) :
    Calls Tryd.prog 50 #[.slice a n c] w fun e w' => e = .returned (.slice a n n) ∧ w = w' := by
  go_enter Tryd.func50, Tryd.ntmps50
  go_wp2
  go_ret
  exact ⟨rfl, rfl⟩

theorem ClipD (a : Option Addr) (n c : Nat) (w : World) (hn : n ≤ c) (hc : c ≤ 9223372036854775807) :
    Calls Tryd.prog 48 #[.slice a n c] w fun e w' => e = .returned (.slice a n n) ∧ w = w' := by
  go_enter Tryd.func48, Tryd.ntmps48
  go_wp2
  go_ret
  exact ⟨rfl, rfl⟩

theorem ClipBs (a : Option Addr) (n c : Nat) (w : World) (hn : n ≤ c) (hc : c ≤ 9223372036854775807) :
    Calls Tryd.prog 23 #[.slice a n c] w fun e w' => e = .returned (.slice a n n) ∧ w = w' := by
  go_enter Tryd.func23, Tryd.ntmps23
  go_wp2
  go_ret
  exact ⟨rfl, rfl⟩

theorem ClipIn (a : Option Addr) (n c : Nat) (w : World) (hn : n ≤ c) (hc : c ≤ 9223372036854775807) :
    Calls Tryd.prog 24 #[.slice a n c] w fun e w' => e = .returned (.slice a n n) ∧ w = w' := by
  go_enter Tryd.func24, Tryd.ntmps24
  go_wp2
  go_ret
  exact ⟨rfl, rfl⟩

theorem ClipOut (a : Option Addr) (n c : Nat) (w : World) (hn : n ≤ c) (hc : c ≤ 9223372036854775807) :
    Calls Tryd.prog 25 #[.slice a n c] w fun e w' => e = .returned (.slice a n n) ∧ w = w' := by
  go_enter Tryd.func25, Tryd.ntmps25
  go_wp2
  go_ret
  exact ⟨rfl, rfl⟩
end Go.Proofs.YtdpobhcpmpfioaaDoor

namespace Go.Proofs.YtdpobhcpmpfioaaDoor
open Go.RowKit

/-- a number in k bytes, the lowest first -/
def le (n : Int) (k : Nat) : List Int := (List.range k).map fun j => n / 2 ^ (8 * j) % 256
theorem le_succ (n : Int) (k : Nat) : le n (k + 1) = le n k ++ [n / 2 ^ (8 * k) % 256] := by simp [le, List.range_succ]
@[simp] theorem le_length (n : Int) (k : Nat) : (le n k).length = k := by simp [le]
theorem byc_one (l : List Int) : ∀ u ∈ byc l, u.oneCell' = true := by
  intro v hv
  obtain ⟨n, _, rfl⟩ := List.mem_map.1 hv
  rfl
@[simp] theorem byc_append (l m : List Int) : byc (l ++ m) = byc l ++ byc m := by simp [byc]
/-- bytes in a row of the call's own -/
def OB (w : World) (base : Nat) (v : Value) (l : List Int) : Prop := w.ownsRow base 5 1 v l.length (byc l)
theorem OB.rby {w : World} {base : Nat} {v : Value} {l : List Int} (h : OB w base v l) : RBy w v l := Rd.own h

theorem OB.gs {w : World} {base : Nat} {v : Value} {l : List Int} (h : OB w base v l) : Gs w base 5 1 v l.length (byc l) := Gs.own h
theorem OB.below {w w' : World} {base : Nat} {v : Value} {l : List Int} (h : OB w base v l) (hb : Below w.heap.size w w') : OB w' base v l := own_below h hb
theorem OB.alloc {w : World} {base : Nat} {v : Value} {l : List Int} (h : OB w base v l) (o : Obj) : OB (w.alloc o) base v l := h.below ((Below.refl _ _).alloc (Nat.le_refl _) o)
theorem OB.mk_app {w : World} {base n : Nat} {v : Value} {l m : List Int} {c : List Value} (h : w.ownsRow base 5 1 v (l.length + n) (byc l ++ c)) (hc : c = byc m) (hm : m.length = n) : OB w base v (l ++ m) := by
  subst hc hm
  simpa [OB] using h
theorem OB.low {w : World} {b b' : Nat} {v : Value} {l : List Int} (h : OB w b v l) (hb : b' ≤ b) : OB w b' v l := own_mono h hb
theorem low_ok (v : Value) (l : List Int) (n : Int) (k : Nat) (w : World) (h : RBy w v l) (hl : l.length ≤ 900000) (hk : k ≤ 8) (hk0 : 0 < k) :
    Calls Tryd.prog 54 #[v, .int .u64 n, .int .i64 k] w fun e w' => ∃ v', e = .returned v' ∧ OB w' w.heap.size v' (l ++ le n k) ∧ Below w.heap.size w w' := by
  have hone := byc_one l
  go_enter Tryd.func54, Tryd.ntmps54
  go_wp2_with fail
  refine (CloneB v _ _ w h hone (by omega)).mono ?_
  rintro e w1 ⟨v1, rfl, ho1, hb1⟩
  obtain ⟨a, c, rfl, hc1, hc2⟩ := (Rd.own ho1).form'
  go_wp2_with fail
  refine (ClipB _ _ _ _ hc1 hc2).mono ?_
  rintro e w' ⟨rfl, rfl⟩
  have ho2 : Gs w1 w.heap.size 5 1 (.slice a l.length l.length) l.length (byc l) := Gs.clip (Rd.own ho1)
  clear ho1 hone
  go_wp2_with fail
  go_loopw [7, 13] (fun v i wr => ∃ j : Nat, j ≤ k ∧ i = .int .i64 j ∧ Gs wr w.heap.size 5 1 v (l.length + j) (byc (l ++ le n j)) ∧ (0 < j → wr.ownsRow w.heap.size 5 1 v (l.length + j) (byc (l ++ le n j))) ∧ Below w.heap.size w wr)
    (fun _ i _ => k - (intOf i).toNat)
  case atStart => exact ⟨0, Nat.zero_le _, rfl, by simpa [le] using ho2, by omega, hb1⟩
  case round =>
    obtain ⟨j, hj, rfl, hown, hown2, hbel⟩ := hrel
    by_cases hlt : j < k
    · have hsz := hbel.size
      go_wp2_with (with_reducible refine wpList_at 22 ?_; refine apU8 (.tmp 16) (.tmp 21) 22 w.heap.size u7 (l.length + j) _ (n / 2 ^ (8 * j) % 256) rfl rfl rfl rfl rfl rfl rfl rfl rfl hown (by omega) (by omega) ?_; intro v' w' hown' hg')
      go_roundw
      case rel =>
        have hq : w'.ownsRow w.heap.size 5 1 v' (l.length + (j + 1)) (byc (l ++ le n (j + 1))) := by rw [le_succ]; simpa [byc, Nat.add_assoc] using hown'
        exact ⟨j + 1, by omega, by go_num, Gs.own hq, fun _ => hq, hbel.trans (hg'.below hsz)⟩
      case measure => simp [intOf]; omega
    · obtain rfl : j = k := by omega
      go_wp2
      go_ret
      exact ⟨_, rfl, by simpa [OB] using hown2 hk0, hbel⟩

theorem Small_ok (v : Value) (l : List Int) (n : Int) (w : World) (h : RBy w v l) (hl : l.length ≤ 900000) (h0 : 0 ≤ n) (h1 : n < 4294967296) :
    Calls Tryd.prog 37 #[v, .int .u32 n] w fun e w' => ∃ v', e = .returned v' ∧ OB w' w.heap.size v' (l ++ le n 4) ∧ Below w.heap.size w w' := by
  go_enter Tryd.func37, Tryd.ntmps37
  go_wp2_with fail
  refine (low_ok v l n 4 w h hl (by omega) (by omega)).mono ?_
  rintro e w1 ⟨v1, rfl, ho1, hb1⟩
  go_wp2_with fail
  go_ret
  exact ⟨_, rfl, ho1, hb1⟩

theorem Big_ok (v : Value) (l : List Int) (n : Int) (w : World) (h : RBy w v l) (hl : l.length ≤ 900000) :
    Calls Tryd.prog 55 #[v, .int .u64 n] w fun e w' => ∃ v', e = .returned v' ∧ OB w' w.heap.size v' (l ++ le n 8) ∧ Below w.heap.size w w' := by
  go_enter Tryd.func55, Tryd.ntmps55
  go_wp2_with fail
  refine (low_ok v l n 8 w h hl (by omega) (by omega)).mono ?_
  rintro e w1 ⟨v1, rfl, ho1, hb1⟩
  go_wp2_with fail
  go_ret
  exact ⟨_, rfl, ho1, hb1⟩

/-- a count below 65536 -/
def cnt (n : Nat) : List Int := if n < 253 then le n 1 else le 253 1 ++ le n 2
set_option maxRecDepth 100000 in
theorem Count_ok (v : Value) (l : List Int) (n : Nat) (w : World) (h : RBy w v l) (hl : l.length ≤ 800000) (h1 : n ≤ 1000) :
    Calls Tryd.prog 40 #[v, .int .i64 n] w fun e w' => ∃ v', e = .returned v' ∧ OB w' w.heap.size v' (l ++ cnt n) ∧ Below w.heap.size w w' := by
  have e1 : (if (0 : Int) > (n : Int) then (0 : Int) else n) = n := by rw [if_neg (by omega)]
  have E2 := Lib.hid (show (if (4294967295 : Int) < (n : Int) then (4294967295 : Int) else n) = n by rw [if_neg (by omega)])
  clear e1
  by_cases hn : n < 253
  · go_enter Tryd.func40, Tryd.ntmps40
    go_wp2_with (first
      | (with_reducible refine wpList_at 7 ?_; refine wpList_max2 (.tmp 6) _ _ .i64 .i64 n 0 n rfl rfl rfl rfl (if_neg (by omega)) ?_)
      | (with_reducible refine wpList_at 8 ?_; refine wpList_min2 (.tmp 7) _ _ .i64 .i64 n _ n rfl rfl rfl rfl E2.out ?_)
      | (with_reducible refine wpList_at 9 ?_; refine wpList_conv (.tmp 8) 3 22 .i64 .u64 n rfl rfl rfl (conv_iu n (by omega) (by omega) _) ?_)
      | (with_reducible refine wpList_at 18 ?_; refine wpList_lss (.tmp 17) _ _ _ .u64 n _ true rfl rfl rfl rfl (decide_eq_true (by omega)) ?_)
      | fail)
    refine (low_ok v l n 1 w h (by omega) (by omega) (by omega)).mono ?_
    rintro e w1 ⟨v1, rfl, ho1, hb1⟩
    go_wp2_with fail
    go_ret
    exact ⟨_, rfl, by simpa [cnt, hn] using ho1, hb1⟩
  · go_enter Tryd.func40, Tryd.ntmps40
    go_wp2_with (first
      | (with_reducible refine wpList_at 7 ?_; refine wpList_max2 (.tmp 6) _ _ .i64 .i64 n 0 n rfl rfl rfl rfl (if_neg (by omega)) ?_)
      | (with_reducible refine wpList_at 8 ?_; refine wpList_min2 (.tmp 7) _ _ .i64 .i64 n _ n rfl rfl rfl rfl E2.out ?_)
      | (with_reducible refine wpList_at 9 ?_; refine wpList_conv (.tmp 8) 3 22 .i64 .u64 n rfl rfl rfl (conv_iu n (by omega) (by omega) _) ?_)
      | (with_reducible refine wpList_at 18 ?_; refine wpList_lss (.tmp 17) _ _ _ .u64 n _ true rfl rfl rfl rfl (decide_eq_true (by omega)) ?_)
      | fail)
    refine (low_ok v l 253 1 w h (by omega) (by omega) (by omega)).mono ?_
    rintro e w1 ⟨v1, rfl, ho1, hb1⟩
    go_wp2_with fail
    refine (low_ok v1 (l ++ le 253 1) n 2 w1 ho1.rby (by simp; omega) (by omega) (by omega)).mono ?_
    rintro e w2 ⟨v2, rfl, ho2, hb2⟩
    go_wp2_with fail
    go_ret
    refine ⟨_, rfl, ?_, hb1.trans (hb2.mono hb1.size)⟩
    have := own_mono ho2 hb1.size
    simpa [cnt, hn, OB] using this

set_option maxRecDepth 100000 in
theorem counted_ok (v v2 : Value) (l m : List Int) (w : World) (h : RBy w v l) (h2 : RBy w v2 m) (hl : l.length ≤ 700000) (hm : m.length ≤ 1000) :
    Calls Tryd.prog 41 #[v, v2] w fun e w' => ∃ v', e = .returned v' ∧ OB w' w.heap.size v' (l ++ cnt m.length ++ m) ∧ Below w.heap.size w w' := by
  obtain ⟨a2, c2, rfl, _, _⟩ := Rd.form' h2
  have hone := Lib.hid (byc_one m)
  go_enter Tryd.func41, Tryd.ntmps41
  go_wp2_with fail
  refine (Count_ok v l m.length w h (by omega) hm).mono ?_
  rintro e w1 ⟨v1, rfl, ho1, hb1⟩
  have hrd := RBy.below h2 hb1
  have hsz := hb1.size
  have hc3 : (l ++ cnt m.length).length ≤ 800000 := by simp [cnt]; split <;> simp <;> omega
  go_wp2_with (with_reducible refine wpList_at 10 ?_; (refine apsU8 (.tmp 8) (.tmp 9) w.heap.size v1 (l ++ cnt m.length).length _ (.slice a2 m.length c2) m.length (byc m) rfl rfl rfl rfl ho1.gs hrd.rd hone.out (by omega) (by omega) ?_); intro v' w' hg1 hg2 hgr hz)
  go_ret
  have hb2 := hb1.trans (hgr.below hsz)
  by_cases hm0 : m.length = 0
  · obtain ⟨rfl, rfl⟩ := hz hm0
    have e : m = [] := List.eq_nil_of_length_eq_zero hm0
    subst e
    exact ⟨_, rfl, by simpa [OB] using ho1, hb2⟩
  · exact ⟨_, rfl, by simpa [OB, Nat.add_assoc] using hg2 (by omega), hb2⟩
end Go.Proofs.YtdpobhcpmpfioaaDoor

namespace Go.Proofs.YtdpobhcpmpfioaaDoor
open Go.RowKit
set_option maxRecDepth 100000 in
theorem CloneB0 (w : World) : Calls Tryd.prog 22 #[.slice none 0 0] w fun e w' => e = .returned (.slice none 0 0) ∧ Below w.heap.size w w' := by
  have q : ∀ (w : World) (a : Option Addr) (n c n' c' : Nat), (binOp .eql 25 (.slice a n c) (.slice none n' c')).run Tryd.prog w = .ok (.bool a.isNone) w := fun w a n c n' c' => Lib.run_eql_slice_nil w _ _ a n c n' c' Tryd.underlying25
  go_enter Tryd.func22, Tryd.ntmps22
  go_wp2_with fail
  go_ret
  exact ⟨rfl, Below.refl _ _⟩
set_option maxRecDepth 100000 in
theorem ClipBs0 (w : World) : Calls Tryd.prog 23 #[.slice none 0 0] w fun e w' => e = .returned (.slice none 0 0) ∧ Below w.heap.size w w' := by
  go_enter Tryd.func23, Tryd.ntmps23
  go_wp2_with fail
  go_ret
  exact ⟨rfl, Below.refl _ _⟩
end Go.Proofs.YtdpobhcpmpfioaaDoor

namespace Go.Proofs.YtdpobhcpmpfioaaDoor
open Go.RowKit
def idxIn (p : TIn → Bool) (l : List TIn) : Int := if l.any p then (l.findIdx p : Nat) else -1

set_option maxRecDepth 100000 in
theorem IndexFuncIn (v : Value) (l : List TIn) (p : TIn → Bool) (g : Nat) (cb : Array Value) (w : World) (h : Rd w 28 36 v l.length (l.flatMap inc)) (hl : l.length ≤ 1000000)
    (eg : ∀ args w, (callFunc g args).run Tryd.prog w = .ok (.enter g args) w)
    (hp : ∀ W x, x ∈ l → Below w.heap.size w W → Calls Tryd.prog g (#[.agg (inc x).toArray] ++ cb) W fun e w' => e = .returned (.bool (p x)) ∧ Below W.heap.size W w') :
    Calls Tryd.prog 66 #[v, .func (.func g) #[] cb] w fun e w' => e = .returned (.int .i64 (idxIn p l)) ∧ Below w.heap.size w w' := by
  obtain ⟨a, c, rfl, h1, h2⟩ := h.form'
  have HP := Lib.hid hp
  clear hp
  go_enter Tryd.func66, Tryd.ntmps66
  go_wp2_with fail
  go_loopw [8] (fun j wr => ∃ i : Nat, i ≤ l.length ∧ j = .int .i64 i ∧ Hid ((l.take i).any p = false) ∧ Below w.heap.size w wr)
    (fun j _ => l.length - (intOf j).toNat)
  case atStart => exact ⟨0, Nat.zero_le _, rfl, by show (l.take 0).any p = false; simp, Below.refl _ _⟩
  case round =>
    obtain ⟨i, hi, rfl, hno, hbel⟩ := hrel
    by_cases hlt : i < l.length
    · obtain ⟨b, off, c', he, _, _, hb, hat⟩ := Rd.at_ h inc_length (by omega)
      obtain ⟨rfl, rfl⟩ : a = some ⟨b, off, none⟩ ∧ c = c' := by simpa using he
      have hr := range_belowB (hat i _ (List.getElem?_eq_getElem hlt)) hbel hb
      have hc := HP.out wr l[i] (List.getElem_mem hlt) hbel
      have hsz := hbel.size
      have hcons : l.take (i + 1) = l.take i ++ [l[i]] := List.take_succ_eq_append_getElem hlt
      have hany : (l.take (i + 1)).any p = p l[i] := by rw [hcons, List.any_append, hno.out]; simp
      have hfind : p l[i] = true → idxIn p l = i := fun hx => by
        have ha : l.any p = true := List.any_eq_true.2 ⟨_, List.getElem_mem hlt, hx⟩
        have hf : l.findIdx p = i := by
          refine (List.findIdx_eq hlt).2 ⟨hx, fun j hj => ?_⟩
          have := List.any_eq_false.1 hno.out l[j] (List.mem_take_iff_getElem.2 ⟨j, by omega, rfl⟩)
          simpa using this
        simp [idxIn, ha, hf]
      have HA := Lib.hid hany
      have HF := Lib.hid hfind
      have HC := Lib.hid hc
      clear hcons hany hfind hno hc hat
      generalize l[i] = x at *
      cases hpx : p x with
      | true =>
        rw [hpx] at HC
        have hF := Lib.hid (HF.out hpx)
        clear hpx HA HF
        go_wp2_with (first
          | (with_reducible refine wpList_at 15 ?_; refine ldIn (.tmp 14) _ _ x rfl rfl rfl hr ?_)
          | fail)
        refine HC.out.mono ?_
        rintro e w1 ⟨rfl, hb1⟩
        go_wp2_with fail
        go_ret
        exact ⟨by rw [hF.out]; rfl, hbel.trans (hb1.mono hsz)⟩
      | false =>
        rw [hpx] at HC HA
        clear hpx HF
        go_wp2_with (first
          | (with_reducible refine wpList_at 15 ?_; refine ldIn (.tmp 14) _ _ x rfl rfl rfl hr ?_)
          | fail)
        refine HC.out.mono ?_
        rintro e w1 ⟨rfl, hb1⟩
        go_wp2_with fail
        go_roundw
        case rel => exact ⟨i + 1, by omega, by go_num, HA, hbel.trans (hb1.mono hsz)⟩
        case measure => simp [intOf]; omega
    · have hf := Lib.hid (show idxIn p l = -1 by
        have hi' : i = l.length := by omega
        have := hno.out
        rw [hi', List.take_length] at this
        simp [idxIn, this])
      clear hno
      go_wp2_with fail
      go_ret
      exact ⟨by rw [hf.out]; rfl, hbel⟩

theorem ContainsFuncIn (v : Value) (l : List TIn) (p : TIn → Bool) (g : Nat) (cb : Array Value) (w : World) (h : Rd w 28 36 v l.length (l.flatMap inc)) (hl : l.length ≤ 1000000)
    (eg : ∀ args w, (callFunc g args).run Tryd.prog w = .ok (.enter g args) w)
    (hp : ∀ W x, x ∈ l → Below w.heap.size w W → Calls Tryd.prog g (#[.agg (inc x).toArray] ++ cb) W fun e w' => e = .returned (.bool (p x)) ∧ Below W.heap.size W w') :
    Calls Tryd.prog 56 #[v, .func (.func g) #[] cb] w fun e w' => e = .returned (.bool (l.any p)) ∧ Below w.heap.size w w' := by
  have hc := IndexFuncIn v l p g cb w h hl eg hp
  have HC := Lib.hid hc
  have hge : decide ((0 : Int) ≤ idxIn p l) = l.any p := by
    unfold idxIn
    cases l.any p <;> simp
  have HG := Lib.hid hge
  clear hc hge hp eg h
  go_enter Tryd.func56, Tryd.ntmps56
  go_wp2_with fail
  refine HC.out.mono ?_
  rintro e w1 ⟨rfl, hb1⟩
  go_wp2_with fail
  go_ret
  exact ⟨by rw [HG.out]; rfl, hb1⟩
end Go.Proofs.YtdpobhcpmpfioaaDoor

namespace Go.Proofs.YtdpobhcpmpfioaaDoor
open Go.RowKit
def leastI (k : Int) : Int := if k = 1 then 240 else if k = 2 then 294 else if k = 3 then 330 else if k = 4 then 330 else 0
theorem Least_ok (k : Int) (w : World) : Calls Tryd.prog 42 #[.int .i64 k] w fun e w' => e = .returned (.int .u64 (leastI k)) ∧ w' = w := by
  by_cases h1 : k = 1
  · subst h1
    go_enter Tryd.func42, Tryd.ntmps42
    go_wp2_with fail
    go_ret
    exact ⟨rfl, rfl⟩
  · by_cases h2 : k = 2
    · subst h2
      go_enter Tryd.func42, Tryd.ntmps42
      go_wp2_with fail
      go_ret
      exact ⟨rfl, rfl⟩
    · by_cases h3 : k = 3
      · subst h3
        go_enter Tryd.func42, Tryd.ntmps42
        go_wp2_with fail
        go_ret
        exact ⟨rfl, rfl⟩
      · by_cases h4 : k = 4
        · subst h4
          go_enter Tryd.func42, Tryd.ntmps42
          go_wp2_with fail
          go_ret
          exact ⟨rfl, rfl⟩
        · have b1 : (k == 1) = false := by simpa using h1
          have b2 : (k == 2) = false := by simpa using h2
          have b3 : (k == 3) = false := by simpa using h3
          have b4 : (k == 4) = false := by simpa using h4
          have HL := Lib.hid (show leastI k = 0 by simp [leastI, h1, h2, h3, h4])
          go_enter Tryd.func42, Tryd.ntmps42
          go_wp2_with fail
          go_ret
          exact ⟨by rw [HL.out]; rfl, rfl⟩
end Go.Proofs.YtdpobhcpmpfioaaDoor

namespace Go.Proofs.YtdpobhcpmpfioaaDoor
open Go.RowKit

def points (t : Tx) : List Pt := t.ins.map fun x => ⟨x.prev, x.vout⟩

theorem Points_ok (tv : List Value) (t : Tx) (w : World) (h : RTxC w tv t) (hl : t.ins.length ≤ 100000) :
    Calls Tryd.prog 15 #[.agg tv.toArray] w fun e w' => ∃ v, e = .returned v ∧ w'.ownsRow w.heap.size 61 33 v t.ins.length ((points t).flatMap ptc) ∧ Below w.heap.size w w' := by
  obtain ⟨i, o, rfl, hi, ho⟩ := h
  obtain ⟨a, c, rfl, h1, h2⟩ := Rd.form' hi
  go_enter Tryd.func15, Tryd.ntmps15
  go_wp2
  go_loopw [3, 9] (fun v i wr => ∃ k : Nat, k ≤ t.ins.length ∧ i = .int .i64 k ∧ wr.ownsRow w.heap.size 61 33 v k (((points t).take k).flatMap ptc) ∧ Below w.heap.size w wr)
    (fun _ i _ => t.ins.length - (intOf i).toNat)
  case atStart => exact ⟨0, Nat.zero_le _, rfl, World.ownsRow_nil _ _ _ _, (Below.refl _ _).alloc (Nat.le_refl _) _⟩
  case round =>
    obtain ⟨k, hk, rfl, hown, hbel⟩ := hrel
    by_cases hlt : k < t.ins.length
    · obtain ⟨b, off, c', he, _, _, hb, hat⟩ := Rd.at_ hi inc_length (by omega)
      obtain ⟨rfl, rfl⟩ : a = some ⟨b, off, none⟩ ∧ c = c' := by simpa using he
      have hr := range_below (hat k _ (List.getElem?_eq_getElem hlt)) hbel
      have hp : (points t).take (k + 1) = (points t).take k ++ [⟨t.ins[k].prev, t.ins[k].vout⟩] := by
        rw [List.take_succ_eq_append_getElem (by simpa [points] using hlt)]; simp [points]
      have HP := Lib.hid hp; clear hp
      generalize t.ins[k] = x at HP hr
      have r3 := range_new wr (inc x) 28 0 (idc x.prev) (inc_prev x)
      have c17 := cell_new wr (inc x) 28 32 _ (inc_at x).1
      have hsz := hbel.size
      go_wp2_with (first
        | (with_reducible refine wpList_at 12 ?_; refine ldIn (.tmp 11) _ _ x rfl rfl rfl hr ?_)
        | (with_reducible refine wpList_at 5 ?_; refine asIn (.tmp 12) 5 x rfl rfl rfl rfl rfl rfl rfl rfl ?_)
        | (with_reducible refine wpList_at 15 ?_; refine ldID (.tmp 14) _ _ x.prev rfl rfl rfl r3 ?_)
        | (with_reducible refine wpList_at 18 ?_; refine buPt (.tmp 15) (.tmp 17) x.prev x.vout rfl rfl rfl rfl ?_)
        | (with_reducible refine wpList_at 19 ?_; refine apPt (.tmp 13) (.tmp 18) 19 w.heap.size _ k _ ⟨x.prev, x.vout⟩ rfl rfl rfl rfl rfl rfl rfl rfl rfl ((Gs.own hown).alloc _) (by omega) (by simp; omega) ?_; intro v' w1 hown' hg'))
      go_roundw
      case rel =>
        refine ⟨k + 1, by omega, by go_num, ?_, ?_⟩
        · rw [HP.out]; simpa using hown'
        · exact ((hbel.alloc hbel.size _).trans (hg'.below (by simp; omega)))
      case measure => simp [intOf]; omega
    · go_wp2
      have e : (points t).take k = points t := List.take_of_length_le (by simp [points]; omega)
      obtain rfl : k = t.ins.length := by omega
      rw [e] at hown
      go_ret
      exact ⟨_, rfl, hown, hbel⟩
end Go.Proofs.YtdpobhcpmpfioaaDoor

namespace Go.Proofs.YtdpobhcpmpfioaaDoor
open Go.RowKit
def idxPt (p : Pt → Bool) (l : List Pt) : Int := if l.any p then (l.findIdx p : Nat) else -1

set_option maxRecDepth 100000 in
theorem IndexFuncPt (v : Value) (l : List Pt) (p : Pt → Bool) (g : Nat) (cb : Array Value) (w : World) (h : Rd w 61 33 v l.length (l.flatMap ptc)) (hl : l.length ≤ 1000000)
    (eg : ∀ args w, (callFunc g args).run Tryd.prog w = .ok (.enter g args) w)
    (hp : ∀ W x, x ∈ l → Below w.heap.size w W → Calls Tryd.prog g (#[.agg (ptc x).toArray] ++ cb) W fun e w' => e = .returned (.bool (p x)) ∧ Below W.heap.size W w') :
    Calls Tryd.prog 31 #[v, .func (.func g) #[] cb] w fun e w' => e = .returned (.int .i64 (idxPt p l)) ∧ Below w.heap.size w w' := by
  obtain ⟨a, c, rfl, h1, h2⟩ := h.form'
  have HP := Lib.hid hp
  clear hp
  go_enter Tryd.func31, Tryd.ntmps31
  go_wp2_with fail
  go_loopw [8] (fun j wr => ∃ i : Nat, i ≤ l.length ∧ j = .int .i64 i ∧ Hid ((l.take i).any p = false) ∧ Below w.heap.size w wr)
    (fun j _ => l.length - (intOf j).toNat)
  case atStart => exact ⟨0, Nat.zero_le _, rfl, by show (l.take 0).any p = false; simp, Below.refl _ _⟩
  case round =>
    obtain ⟨i, hi, rfl, hno, hbel⟩ := hrel
    by_cases hlt : i < l.length
    · obtain ⟨b, off, c', he, _, _, hb, hat⟩ := Rd.at_ h ptc_length (by omega)
      obtain ⟨rfl, rfl⟩ : a = some ⟨b, off, none⟩ ∧ c = c' := by simpa using he
      have hr := range_belowB (hat i _ (List.getElem?_eq_getElem hlt)) hbel hb
      have hc := HP.out wr l[i] (List.getElem_mem hlt) hbel
      have hsz := hbel.size
      have hcons : l.take (i + 1) = l.take i ++ [l[i]] := List.take_succ_eq_append_getElem hlt
      have hany : (l.take (i + 1)).any p = p l[i] := by rw [hcons, List.any_append, hno.out]; simp
      have hfind : p l[i] = true → idxPt p l = i := fun hx => by
        have ha : l.any p = true := List.any_eq_true.2 ⟨_, List.getElem_mem hlt, hx⟩
        have hf : l.findIdx p = i := by
          refine (List.findIdx_eq hlt).2 ⟨hx, fun j hj => ?_⟩
          have := List.any_eq_false.1 hno.out l[j] (List.mem_take_iff_getElem.2 ⟨j, by omega, rfl⟩)
          simpa using this
        simp [idxPt, ha, hf]
      have HA := Lib.hid hany
      have HF := Lib.hid hfind
      have HC := Lib.hid hc
      clear hcons hany hfind hno hc hat
      generalize l[i] = x at *
      cases hpx : p x with
      | true =>
        rw [hpx] at HC
        have hF := Lib.hid (HF.out hpx)
        clear hpx HA HF
        go_wp2_with (first
          | (with_reducible refine wpList_at 15 ?_; refine ldPt (.tmp 14) _ _ x rfl rfl rfl hr ?_)
          | fail)
        refine HC.out.mono ?_
        rintro e w1 ⟨rfl, hb1⟩
        go_wp2_with fail
        go_ret
        exact ⟨by rw [hF.out]; rfl, hbel.trans (hb1.mono hsz)⟩
      | false =>
        rw [hpx] at HC HA
        clear hpx HF
        go_wp2_with (first
          | (with_reducible refine wpList_at 15 ?_; refine ldPt (.tmp 14) _ _ x rfl rfl rfl hr ?_)
          | fail)
        refine HC.out.mono ?_
        rintro e w1 ⟨rfl, hb1⟩
        go_wp2_with fail
        go_roundw
        case rel => exact ⟨i + 1, by omega, by go_num, HA, hbel.trans (hb1.mono hsz)⟩
        case measure => simp [intOf]; omega
    · have hf := Lib.hid (show idxPt p l = -1 by
        have hi' : i = l.length := by omega
        have := hno.out
        rw [hi', List.take_length] at this
        simp [idxPt, this])
      clear hno
      go_wp2_with fail
      go_ret
      exact ⟨by rw [hf.out]; rfl, hbel⟩

theorem ContainsFuncPt (v : Value) (l : List Pt) (p : Pt → Bool) (g : Nat) (cb : Array Value) (w : World) (h : Rd w 61 33 v l.length (l.flatMap ptc)) (hl : l.length ≤ 1000000)
    (eg : ∀ args w, (callFunc g args).run Tryd.prog w = .ok (.enter g args) w)
    (hp : ∀ W x, x ∈ l → Below w.heap.size w W → Calls Tryd.prog g (#[.agg (ptc x).toArray] ++ cb) W fun e w' => e = .returned (.bool (p x)) ∧ Below W.heap.size W w') :
    Calls Tryd.prog 17 #[v, .func (.func g) #[] cb] w fun e w' => e = .returned (.bool (l.any p)) ∧ Below w.heap.size w w' := by
  have hc := IndexFuncPt v l p g cb w h hl eg hp
  have HC := Lib.hid hc
  have hge : decide ((0 : Int) ≤ idxPt p l) = l.any p := by
    unfold idxPt
    cases l.any p <;> simp
  have HG := Lib.hid hge
  clear hc hge hp eg h
  go_enter Tryd.func17, Tryd.ntmps17
  go_wp2_with fail
  refine HC.out.mono ?_
  rintro e w1 ⟨rfl, hb1⟩
  go_wp2_with fail
  go_ret
  exact ⟨by rw [HG.out]; rfl, hb1⟩
end Go.Proofs.YtdpobhcpmpfioaaDoor

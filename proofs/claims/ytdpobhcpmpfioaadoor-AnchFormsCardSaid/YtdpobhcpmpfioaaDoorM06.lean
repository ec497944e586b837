import Derived.Test.YtdpobhcpmpfioaaDoorM05
import Derived.Laws.CopyRow
set_option linter.all false
set_option linter.unusedVariables false
set_option linter.unusedSimpArgs false
/-! A block and all its cells. -/
namespace Go.Proofs.YtdpobhcpmpfioaaDoor
open Go.RowKit
def HB (w : World) (b : Nat) (T : TypeId) (cs : List Value) : Prop := w.heap[b]? = some (.cells cs.toArray T (0, 0))
section
variable {w w' : World} {B b : Nat} {T : TypeId} {cs : List Value}
theorem HB.hp (h : HB w b T cs) : w.heap[b]? = some (.cells cs.toArray T (0, 0)) := h
theorem HB.cell (h : HB w b T cs) {j : Nat} {v : Value} (hj : cs[j]? = some v) : w.cell? ⟨b, j, none⟩ = some v := by
  rw [cell_of_row w b j _ _ _ h]
  simpa using hj
theorem HB.frozen (h : HB w b T cs) (j : Nat) : w.frozen? ⟨b, j, none⟩ = false := by
  unfold HB at h
  simp [World.frozen?, h]
theorem HB.range (h : HB w b T cs) : w.rangeAt b 0 cs := by
  intro j u hu
  rw [Nat.zero_add]
  exact h.cell hu
theorem HB.sub (h : HB w b T cs) {off : Nat} {l : List Value} (hl : ∀ j u, l[j]? = some u → cs[off + j]? = some u) : w.rangeAt b off l := fun j u hu => h.cell (hl j u hu)
theorem HB.lt (h : HB w b T cs) : b < w.heap.size := (Array.getElem?_eq_some_iff.1 h).1
theorem HB.set (h : HB w b T cs) (j : Nat) (v : Value) : HB (w.setCell ⟨b, j, none⟩ v) b T (cs.set j v) := by
  have hlt := h.lt
  unfold HB at h ⊢
  simp [World.setCell, Array.getElem?_modify, h, List.map_set]
theorem HB.other (h : HB w b T cs) (p : Addr) (v : Value) (hp : b ≠ p.block) : HB (w.setCell p v) b T cs := (Below.heap_setCell w p v b hp).trans h
theorem HB.belowB (h : HB w b T cs) (hb : Below B w w') (hB : b < B) : HB w' b T cs := (hb.block b hB).trans h
theorem HB.below (h : HB w b T cs) (hb : Below w.heap.size w w') : HB w' b T cs := h.belowB hb h.lt
theorem HB.alloc (h : HB w b T cs) (o : Obj) : HB (w.alloc o) b T cs := (Below.heap_alloc w o b h.lt).trans h
theorem HB.setRow (h : HB w b T cs) (cs' : List Value) : HB (w.setRow b cs'.toArray) b T cs' := setRow_heap w b _ _ T _ h
theorem HB.setRowOther (h : HB w b T cs) (g : Nat) (c : Array Value) (hb : b ≠ g) : HB (w.setRow g c) b T cs := (setRow_other w g b c hb).trans h
theorem HB.of_heap (h : HB w b T cs) (e : w'.heap[b]? = w.heap[b]?) : HB w' b T cs := e.trans h
theorem HB.new (w : World) (T : TypeId) (cs : List Value) : HB (w.alloc (.cells cs.toArray T)) w.heap.size T cs := heap_alloc_new w _
theorem HB.drew (h : HB w b T cs) : HB w.drew b T cs := h
end
/-- a store of several cells, or of one, into the midst of a block -/
theorem wp_store_sub {P : Program} {Q : Exit → Act → World → Prop} {o : Oper} {a : Act} {w : World} {K : Act → World → Prop} (ty : TypeId) (x y : Operand) (ho : o.op = .store ty x y) (g off : Nat) (T : TypeId) (cs vs : List Value) (v : Value)
    (hx : a.eval x = .pointer (some ⟨g, off, none⟩)) (hy : a.eval y = v) (hv : v.cells = vs.toArray) (hb : HB w g T cs) (hi : (P.info? ty).map (·.size) = some vs.length) (hl : off + vs.length ≤ cs.length) (h1 : ∀ v ∈ vs, v.oneCell' = true)
    (h : K (a.put o.dst undef) (w.setRow g (cs.take off ++ vs ++ cs.drop (off + vs.length)).toArray)) : o.wp P a w K Q := by
  have hr := run_storeCells_at (P := P) g off T vs 0 cs.toArray w hb.hp (by simpa using hl) h1
  cases hq : P.info? ty with
  | none => simp [hq] at hi
  | some i =>
    have hs : i.size = vs.length := by simpa [hq] using hi
    unfold Oper.wp execOp
    have hst : (storeVar ty ⟨g, off, none⟩ v).run P w = .ok () (w.setRow g (cs.take off ++ vs ++ cs.drop (off + vs.length)).toArray) := by
      simp only [Nat.add_zero] at hr
      simp [storeVar, sizeOf, typeInfo, hq, hs, hv]
      simpa using hr
    simp only [ho, hx, hy, Instr.storeAt, Instr.sureAddr, Sem.run_bind, Sem.run_pure, Result.andThen_ok, hst]
    exact h
theorem faEnt0 (b off : Nat) (w : World) : (Instr.fieldAt 42 (.pointer (some ⟨b, off, none⟩)) 0).run Tryd.prog w = .ok (.pointer (some ⟨b, off, none⟩)) w := by
  have := Tryd.underlying42
  simp [Instr.fieldAt, Instr.sureAddr, go_sem, *]
theorem faEnt1 (b off : Nat) (w : World) : (Instr.fieldAt 42 (.pointer (some ⟨b, off, none⟩)) 1).run Tryd.prog w = .ok (.pointer (some ⟨b, off + 4, none⟩)) w := by
  have := Tryd.underlying42
  simp [Instr.fieldAt, Instr.sureAddr, go_sem, *]
theorem faEnt5 (b off : Nat) (w : World) : (Instr.fieldAt 42 (.pointer (some ⟨b, off, none⟩)) 5).run Tryd.prog w = .ok (.pointer (some ⟨b, off + 71, none⟩)) w := by
  have := Tryd.underlying42
  simp [Instr.fieldAt, Instr.sureAddr, go_sem, *]
theorem faPool0 (b off : Nat) (w : World) : (Instr.fieldAt 53 (.pointer (some ⟨b, off, none⟩)) 0).run Tryd.prog w = .ok (.pointer (some ⟨b, off, none⟩)) w := by
  have := Tryd.underlying53
  simp [Instr.fieldAt, Instr.sureAddr, go_sem, *]
theorem faPool1 (b off : Nat) (w : World) : (Instr.fieldAt 53 (.pointer (some ⟨b, off, none⟩)) 1).run Tryd.prog w = .ok (.pointer (some ⟨b, off + 1, none⟩)) w := by
  have := Tryd.underlying53
  simp [Instr.fieldAt, Instr.sureAddr, go_sem, *]
theorem faPool2 (b off : Nat) (w : World) : (Instr.fieldAt 53 (.pointer (some ⟨b, off, none⟩)) 2).run Tryd.prog w = .ok (.pointer (some ⟨b, off + 2, none⟩)) w := by
  have := Tryd.underlying53
  simp [Instr.fieldAt, Instr.sureAddr, go_sem, *]
end Go.Proofs.YtdpobhcpmpfioaaDoor

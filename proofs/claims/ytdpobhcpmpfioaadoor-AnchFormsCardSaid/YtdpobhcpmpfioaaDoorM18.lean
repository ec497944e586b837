import Derived.Test.YtdpobhcpmpfioaaDoorM06
import Derived.Test.YtdpobhcpmpfioaaDoorM15
import Derived.Lib.BytesEntry
import Derived.Deep.QuietTactic
import Derived.BigQuiet
set_option linter.all false
set_option linter.unusedVariables false
set_option linter.unusedSimpArgs false
namespace Go.Proofs.YtdpobhcpmpfioaaDoor
open Go.RowKit

def cmpI (x y : ID) : Int := Lib.compareBytes (Lib.bytesOf x.1) (Lib.bytesOf y.1)
theorem run_cmp (a b : Nat) (xs ys : List Int) (w : World) (hx : ∀ j v, xs[j]? = some v → w.cell? ⟨a, j, none⟩ = some (.int .u8 v)) (hy : ∀ j v, ys[j]? = some v → w.cell? ⟨b, j, none⟩ = some (.int .u8 v)) (n m : Nat) (hn : xs.length = n) (hm : ys.length = m) :
    (Extern.BytealgCompare.compare #[.slice (some ⟨a, 0, none⟩) n n, .slice (some ⟨b, 0, none⟩) m m]).run Tryd.prog w = .ok (.int .i64 (Lib.compareBytes (Lib.bytesOf xs) (Lib.bytesOf ys))) w := by
  have h1 := Lib.run_loadBytesX (P := Tryd.prog) w xs ⟨a, 0, none⟩ .empty (fun j x hj => by rw [Addr.add_mid, Nat.zero_add]; exact hx j x hj)
  have h2 := Lib.run_loadBytesX (P := Tryd.prog) w ys ⟨b, 0, none⟩ .empty (fun j x hj => by rw [Addr.add_mid, Nat.zero_add]; exact hy j x hj)
  rw [hn] at h1
  rw [hm] at h2
  change Sem.run _ (do pure (goInt (Extern.BytealgCompare.cmp (← Extern.Bytes.bytesOf (.slice (some ⟨a, 0, none⟩) n n)) (← Extern.Bytes.bytesOf (.slice (some ⟨b, 0, none⟩) m m))))) w = _
  simp only [Extern.Bytes.bytesOf, Sem.run_bind, Sem.run_pure, Result.andThen, h1, h2]
  rw [Lib.cmp_eq]
  have he : ∀ l : List UInt8, (ByteArray.empty.data ++ l.toArray).toList = l := fun l => by
    show ((#[] : Array UInt8) ++ l.toArray).toList = l
    simp
  simp only [he]
  rfl

set_option maxRecDepth 100000 in
theorem bytesCompare_ok (a b : Nat) (xs ys : List Int) (w : World) (hx : ∀ j v, xs[j]? = some v → w.cell? ⟨a, j, none⟩ = some (.int .u8 v)) (hy : ∀ j v, ys[j]? = some v → w.cell? ⟨b, j, none⟩ = some (.int .u8 v)) (n m : Nat) (hn : xs.length = n) (hm : ys.length = m) :
    Calls Tryd.prog 62 #[.slice (some ⟨a, 0, none⟩) n n, .slice (some ⟨b, 0, none⟩) m m] w fun e w' => e = .returned (.int .i64 (Lib.compareBytes (Lib.bytesOf xs) (Lib.bytesOf ys))) ∧ w' = w := by
  have hr := run_cmp a b xs ys w hx hy n m hn hm
  generalize Lib.compareBytes (Lib.bytesOf xs) (Lib.bytesOf ys) = c at *
  clear hx hy hn hm
  go_enter Tryd.func62, Tryd.ntmps62
  go_wp2_with fail
  rw [run_callFunc_extern Tryd.func78 (by kernel_rfl) (by kernel_rfl) (by kernel_rfl) (e := Extern.BytealgCompare.compare) (by kernel_rfl), hr]
  simp only [Result.andThen]
  rw [Oper.upon_value]
  go_wp2_with fail
  go_ret
  exact ⟨rfl, rfl⟩

theorem lexSlice0 {P : Program} {ops : Array Oper} {Q : Exit → Act → World → Prop} {S : World → Prop} {K : Act → World → Prop} {fs : List (Bool × Oper)} {o : Oper} {a : Act} {w : World} (ty : TypeId) (x : Operand) (v v' : Value) (hg : o.guard = none) (ho : o.op = .slice ty x none none none) (hx : a.eval x = v)
    (hS : ∀ w, (Instr.sliceAt ty v none none none).run P w = .ok v' w) (h : wpLex P ops Q S K fs (a.put o.dst v') w) : wpLex P ops Q S K ((true, o) :: fs) a w :=
  lexY v' hg (fun w hw => by unfold execOp; simp only [ho, hx, Option.map_none, Sem.run_bind, hS w, Result.andThen_ok, Sem.run_pure]) h
theorem run_sliceAll (b : Nat) (w : World) : (Instr.sliceAt 24 (.pointer (some ⟨b, 0, none⟩)) none none none).run Tryd.prog w = .ok (.slice (some ⟨b, 0, none⟩) 32 32) w := by
  show _ = _
  kernel_rfl
set_option maxRecDepth 100000 in
theorem Compare_ok (x y : ID) (w : World) : Calls Tryd.prog 47 #[.agg (idc x).toArray, .agg (idc y).toArray] w fun e w' => e = .returned (.int .i64 (cmpI x y)) ∧ w' = ((w.alloc (.cells (idc x).toArray 24)).alloc (.cells (idc y).toArray 24)).drew := by
  go_enter Tryd.func47, Tryd.ntmps47
  go_wp2_with fail
  have h1 := (HB.new w 24 (idc x)).alloc (.cells (idc y).toArray 24)
  have h2 := HB.new (w.alloc (.cells (idc x).toArray 24)) 24 (idc y)
  have hs : (w.alloc (.cells (idc x).toArray 24)).heap.size = w.heap.size + 1 := by simp
  rw [hs] at h2
  have h1 := h1.drew
  have h2 := h2.drew
  generalize hWq : (w.alloc (.cells (idc x).toArray 24)).alloc (.cells (idc y).toArray 24) = W at *
  refine region_lex (by rfl) (fun w' => w' = W.drew) [(0, true), (1, true), (2, false), (3, true)] (fun _ _ d _ _ h => by cases d <;> exact h) (by kernel_rfl) (by kernel_rfl) rfl ?_
  simp only [pick, List.getElem?_cons_succ, List.getElem?_cons_zero, List.drop_succ_cons, List.drop_zero, List.length_cons, List.length_nil, List.drop_nil]
  refine lexSlice0 24 (.tmp 2) _ (.slice (some ⟨w.heap.size, 0, none⟩) 32 32) rfl rfl rfl (run_sliceAll w.heap.size) ?_
  simp only [Act.put, List.setIfInBounds_toArray, List.set_cons_zero, List.set_cons_succ]
  refine lexSlice0 24 (.tmp 3) _ (.slice (some ⟨w.heap.size + 1, 0, none⟩) 32 32) rfl rfl rfl (run_sliceAll (w.heap.size + 1)) ?_
  simp only [Act.put, List.setIfInBounds_toArray, List.set_cons_zero, List.set_cons_succ]
  have g1 : ∀ j v, x.1[j]? = some v → W.drew.cell? ⟨w.heap.size, j, none⟩ = some (.int .u8 v) := fun j v h => h1.cell (by simp [idc, h])
  have g2 : ∀ j v, y.1[j]? = some v → W.drew.cell? ⟨w.heap.size + 1, j, none⟩ = some (.int .u8 v) := fun j v h => h2.cell (by simp [idc, h])
  refine lexOp rfl (wp_call 62 _ _ rfl [.slice (some ⟨w.heap.size, 0, none⟩) 32 32, .slice (some ⟨w.heap.size + 1, 0, none⟩) 32 32] rfl (fun _ _ => rfl) ((bytesCompare_ok w.heap.size (w.heap.size + 1) x.1 y.1 W.drew g1 g2 32 32 x.2 y.2).mono ?_))
  rintro e w1 ⟨rfl, rfl⟩
  refine ⟨_, rfl, rfl, ?_⟩
  simp only [Act.put, List.setIfInBounds_toArray, List.set_cons_zero, List.set_cons_succ]
  refine lexAssign (.tmp 7) (.int .i64 (cmpI x y)) rfl rfl rfl ?_
  simp only [Act.put, List.setIfInBounds_toArray, List.set_cons_zero, List.set_cons_succ]
  simp only [wpLex, wpList]
  go_wp2_with fail
  go_ret
  exact ⟨rfl, by rw [hWq]⟩
end Go.Proofs.YtdpobhcpmpfioaaDoor

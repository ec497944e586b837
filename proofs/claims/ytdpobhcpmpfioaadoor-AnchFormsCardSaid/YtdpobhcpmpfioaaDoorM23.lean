import Derived.Test.YtdpobhcpmpfioaaDoorM21
import Derived.Test.YtdpobhcpmpfioaaDoorM22
import Derived.ArgAppend
set_option linter.all false
set_option linter.unusedVariables false
set_option linter.unusedSimpArgs false
namespace Go.Proofs.YtdpobhcpmpfioaaDoor
open Go.RowKit

theorem run_append_zeros (ty : TypeId) (w : World) (b : Addr) (sLen cap : Nat) (olds : List Value) (hlo : olds.length = sLen) (holds : ∀ j v, olds[j]? = some v → w.cell? (b.add j) = some v)
    (n : Nat) (hn0 : 0 < n) (hsm : sLen + n ≤ 100000) (hcs : cap ≤ 100000) (hg : cap < sLen + n) :
    (Builtin.append_ #[25, 3] ty #[.slice (some b) sLen cap, .int .i64 n]).run Tryd.prog w =
      .ok (.slice (some ⟨w.heap.size, 0, none⟩) (sLen + n) (grownCap w (sLen + n) cap 5)) (w.drew.alloc (.cells (olds.toArray ++ Builtin.zeroCells zU8.cells n ++ Builtin.zeroCells zU8.cells (grownCap w (sLen + n) cap 5 - (sLen + n))) 5)) := by
  obtain ⟨i, hi, hz, hsize, hbytes⟩ := info_parts infoU8
  have hn : ¬ (sLen + n ≤ cap) := by omega
  have h63' : ¬ (9223372036854775807 < ((sLen : Int) + (n : Int))) := by omega
  have h48' : ¬ (281474976710656 < Builtin.nextslicecap (sLen + n) cap * i.bytes) := by
    have := growslice_fits (bytes := i.bytes) hg (by rw [hbytes]; omega)
    omega
  have hfo := run_firstCells_some (P := Tryd.prog) w.drew i.size sLen b sLen cap olds (by rw [hsize, hlo]; omega) (by simpa using holds)
  have hwr : IntKind.i64.wrap (n : Int) = n := by rw [IntKind.wrap_i64]; omega
  have hneg : ¬ ((n : Int) < 0) := by omega
  have h2 : ¬ (281474976710656 < (n : Int) * (i.bytes : Int)) := by rw [hbytes]; omega
  have hnz : ¬ (n * i.size = 0) := by rw [hsize]; omega
  have hn0' : n ≠ 0 := by omega
  have hsz' : i.size ≠ 0 := by omega
  have hai : Sem.run Tryd.prog (asIntOf (.int .i64 n)) w = .ok (.i64, (n : Int)) w := rfl
  have hmx : max (n : Int) 0 = n := by omega
  simp [Builtin.append_, run_underlying Tryd.underlying25, run_underlying Tryd.underlying3, sizeOf, typeInfo, zeroValue, hi, hz, asInt, hai, hmx, hwr, hneg, h2, hn0', hsz', hn, h63', h48', Question.forced, hfo, newRow, grownCap]
  rw [if_neg hnz]
  rfl
theorem hz20 : Builtin.zeroCells zU8.cells 20 = (List.replicate 20 (Value.int .u8 0)).toArray := by kernel_rfl
set_option maxRecDepth 100000 in
theorem wpList_appZ {ops : Array Oper} {rest : List Oper} {o : Oper} {a : Act} {w : World} {Q : Exit → Act → World → Prop} (s : Operand) (hg : o.guard = none)
    (ho : o.op = .call { callee := .builtin .append, args := #[s, .const (.int .i64 20)], argTypes := #[25, 3] }) (g : Nat) (x y : Int) (hs : a.eval s = .slice (some ⟨g, 0, none⟩) 2 2) (hb : HB w g 5 [.int .u8 x, .int .u8 y])
    (h : ∀ v' w', w'.ownsRow w.heap.size 5 1 v' 22 (byc (x :: y :: List.replicate 20 0)) → Below w.heap.size w w' → wpList Tryd.prog ops Q rest (a.put o.dst v') w') : wpList Tryd.prog ops Q (o :: rest) a w := by
  have hr := run_append_zeros o.type w ⟨g, 0, none⟩ 2 2 [.int .u8 x, .int .u8 y] rfl (fun j v hj => by rw [Addr.add_mid, Nat.zero_add]; exact hb.cell hj) 20 (by decide) (by decide) (by decide) (by decide)
  have hge := grownCap_ge w (2 + 20) 2 5
  have hcm : grownCap w (2 + 20) 2 5 ≤ maxLen := grownCap_le_maxLen w (2 + 20) 2 5 (by decide)
  have hrun : (Builtin.append_ #[25, 3] o.type #[.slice (some ⟨g, 0, none⟩) 2 2, .int .i64 20]).run Tryd.prog w = _ := hr
  refine wpList_plain hg fun _ hK => ?_
  unfold Oper.wp execOp
  have hx : a.eval (.const (.int .i64 20)) = .int .i64 20 := rfl
  simp only [ho, resolve, invoke, builtin, Sem.run_bind, Sem.run_pure, Result.andThen_ok, List.map_toArray, List.map_cons, List.map_nil, hs, hx, hrun]
  refine hK _ _ ?_
  refine h _ _ ⟨by simp only [byc, List.length_map, List.length_cons, List.length_replicate], .inr ⟨w.heap.size, _, _, rfl, Nat.le_refl _, heap_alloc_new w.drew _, hge, hcm, ?_, ?_⟩⟩ ?_
  · rw [hz20]
    simp only [Array.size_append, List.size_toArray, size_zeroCells, zcU8, List.length_replicate, List.length_cons, List.length_nil]
    omega
  · rw [hz20]
    simp only [Array.toList_append, List.toList_toArray]
    exact List.take_left' (by simp)
  · exact ((Below.refl w.heap.size w).drew).alloc (Nat.le_refl _) _
end Go.Proofs.YtdpobhcpmpfioaaDoor

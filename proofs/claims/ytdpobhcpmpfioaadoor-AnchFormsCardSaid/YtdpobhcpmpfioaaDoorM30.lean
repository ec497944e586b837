import Derived.Test.YtdpobhcpmpfioaaDoorM05
import Derived.Test.YtdpobhcpmpfioaaDoorM29
import Derived.Deep.DeepCutAuto
import Derived.Lib.SlBytesConst
set_option linter.all false
set_option linter.unusedVariables false
set_option linter.unusedSimpArgs false
namespace Go.Proofs.YtdpobhcpmpfioaaDoor
open Go.RowKit
def wOut : List TOut := [oO 9000, ⟨0, [81, 2, 78, 115]⟩]
def wTx : Tx := ⟨3, [⟨zid, 1, 0⟩], wOut, 0⟩
def uTx (x : ID) : Tx := ⟨3, [⟨x, 0, 0⟩], [oO 9000], 0⟩
def vTx (x : ID) : Tx := ⟨3, [⟨x, 0, 0⟩, ⟨x, 1, 0⟩], [oO 9000], 0⟩
theorem run_build_tx2 (n : Int) (a a2 : Option Addr) (m c m2 c2 : Nat) (w : World) : (Instr.build 32 #[(0, .int .u32 n), (1, .slice a m c), (2, .slice a2 m2 c2)]).run Tryd.prog w = .ok (.agg #[.int .u32 n, .slice a m c, .slice a2 m2 c2, .int .u32 0]) w := by
  show _ = _
  kernel_rfl
set_option maxRecDepth 100000 in
theorem run_build_in3 (x : ID) (w : World) : (Instr.build 28 #[(0, .agg (idc x).toArray)]).run Tryd.prog w = .ok (.agg (inc ⟨x, 0, 0⟩).toArray) w := by
  obtain ⟨l, h⟩ := x
  match l, h with
  | [a0, a1, a2, a3, a4, a5, a6, a7, a8, a9, a10, a11, a12, a13, a14, a15, a16, a17, a18, a19, a20, a21, a22, a23, a24, a25, a26, a27, a28, a29, a30, a31], _ => show _ = _; kernel_rfl
theorem infoTx : (Tryd.prog.info? 32).map (fun i => (i.zero, i.size)) = some (some (.agg #[.int .u32 0, .slice none 0 0, .slice none 0 0, .int .u32 0]), 4) := by kernel_rfl
theorem faTx2 (b off : Nat) (w : World) : (Instr.fieldAt 32 (.pointer (some ⟨b, off, none⟩)) 2).run Tryd.prog w = .ok (.pointer (some ⟨b, off + 2, none⟩)) w := by
  have := Tryd.underlying32
  simp [Instr.fieldAt, Instr.sureAddr, go_sem, *]
theorem run_slice1 (g : Nat) (w : World) : (Instr.sliceAt 30 (.slice (some ⟨g, 0, none⟩) 2 2) none (some (.int .i64 1)) none).run Tryd.prog w = .ok (.slice (some ⟨g, 0, none⟩) 1 2) w := by
  show _ = _
  kernel_rfl
theorem lexSliceHi {P : Program} {ops : Array Oper} {Q : Exit → Act → World → Prop} {S : World → Prop} {K : Act → World → Prop} {fs : List (Bool × Oper)} {o : Oper} {a : Act} {w : World} (ty : TypeId) (x hi : Operand) (v vh v' : Value) (hg : o.guard = none) (ho : o.op = .slice ty x none (some hi) none) (hx : a.eval x = v) (hh : a.eval hi = vh)
    (hS : ∀ w, (Instr.sliceAt ty v none (some vh) none).run P w = .ok v' w) (h : wpLex P ops Q S K fs (a.put o.dst v') w) : wpLex P ops Q S K ((true, o) :: fs) a w :=
  lexY v' hg (fun w hw => by unfold execOp; simp only [ho, hx, hh, Option.map_none, Option.map_some, Sem.run_bind, hS w, Result.andThen_ok, Sem.run_pure]) h
theorem wp_slice2 {P : Program} {Q : Exit → Act → World → Prop} {o : Oper} {a : Act} {w : World} {K : Act → World → Prop} (t e : TypeId) (x y : Operand) (ho : o.op = .buildSlice t 2 #[(0, x), (1, y)]) (z : Value) (size bytes : Nat) (ht : P.underlying t = some (.slice e))
    (hinfo : (P.info? e).map (fun i => (i.zero, i.size, i.bytes)) = some (some z, size, bytes)) (hsz : 0 < size) (hsm : size ≤ 1000) (v1 v2 : Value) (hx : a.eval x = v1) (hy : a.eval y = v2) (new : List Value)
    (hf : Instr.fill (fun i => some (i * size, size)) ((Array.range (2 * size)).map (z.cells[· % z.cells.size]!)) [(0, v1), (1, v2)] = some new.toArray)
    (h : K (a.put o.dst (.slice (some ⟨w.heap.size, 0, none⟩) 2 2)) (w.alloc (.cells new.toArray e))) : o.wp P a w K Q := by
  obtain ⟨i, hi, hz, hsize, hbytes⟩ := info_parts hinfo
  refine wp_buildSlice t e 2 #[(0, x), (1, y)] ho new.toArray i z ht hi hz (by rw [hsize]; omega) (by rw [hsize]; omega) ?_ h
  rw [hsize]
  simpa [hx, hy] using hf
set_option maxRecDepth 100000 in
theorem fill2 (x : ID) : Instr.fill (fun i => some (i * 36, 36)) ((Array.range (2 * 36)).map (zIn.cells[· % zIn.cells.size]!)) [(0, .agg (inc ⟨x, 0, 0⟩).toArray), (1, .agg (inc ⟨x, 1, 0⟩).toArray)] = some (inc ⟨x, 0, 0⟩ ++ inc ⟨x, 1, 0⟩).toArray := by
  obtain ⟨l, h⟩ := x
  match l, h with
  | [a0, a1, a2, a3, a4, a5, a6, a7, a8, a9, a10, a11, a12, a13, a14, a15, a16, a17, a18, a19, a20, a21, a22, a23, a24, a25, a26, a27, a28, a29, a30, a31], _ => show _ = _; kernel_rfl
set_option maxRecDepth 100000 in
theorem run_build_in4 (x : ID) (w : World) : (Instr.build 28 #[(0, .agg (idc x).toArray), (1, .int .u32 1)]).run Tryd.prog w = .ok (.agg (inc ⟨x, 1, 0⟩).toArray) w := by
  obtain ⟨l, h⟩ := x
  match l, h with
  | [a0, a1, a2, a3, a4, a5, a6, a7, a8, a9, a10, a11, a12, a13, a14, a15, a16, a17, a18, a19, a20, a21, a22, a23, a24, a25, a26, a27, a28, a29, a30, a31], _ => show _ = _; kernel_rfl
theorem Sl.mk (a : Option Addr) (n c : Nat) : Sl (.slice a n c) := ⟨_, _, _, rfl⟩
theorem wTx_wf : TxWf wTx where
  i1 := by simp [wTx]
  i2 := by simp [wTx]
  o1 := by simp [wTx, wOut]
  o2 := by simp [wTx, wOut]
  v := w32_3
  l := w32_0
  iv := by
    intro x hx
    obtain rfl : x = ⟨zid, 1, 0⟩ := by simpa [wTx] using hx
    exact ⟨⟨by decide, by decide⟩, w32_0⟩
  os := by
    intro x hx
    rcases List.mem_cons.1 hx with rfl | hx
    · simp [oO]
    · obtain rfl : x = ⟨0, [81, 2, 78, 115]⟩ := by simpa using hx
      simp
theorem w32_1 : W32 1 := ⟨by decide, by decide⟩
set_option maxRecDepth 100000 in
theorem dusts_w : dusts wTx = [1] := by decide +kernel
set_option maxRecDepth 100000 in
theorem dusts_u (x : ID) : dusts (uTx x) = [] := by
  show dustsN [oO 9000] 1 = []
  decide +kernel
theorem uTx_wf (x : ID) : TxWf (uTx x) where
  i1 := by simp [uTx]
  i2 := by simp [uTx]
  o1 := by simp [uTx]
  o2 := by simp [uTx]
  v := w32_3
  l := w32_0
  iv := by
    intro y hy
    obtain rfl : y = ⟨x, 0, 0⟩ := by simpa [uTx] using hy
    exact ⟨w32_0, w32_0⟩
  os := by
    intro y hy
    obtain rfl : y = oO 9000 := by simpa [uTx] using hy
    simp [oO]
theorem vTx_wf (x : ID) : TxWf (vTx x) where
  i1 := by simp [vTx]
  i2 := by simp [vTx]
  o1 := by simp [vTx]
  o2 := by simp [vTx]
  v := w32_3
  l := w32_0
  iv := by
    intro y hy
    have : y = ⟨x, 0, 0⟩ ∨ y = ⟨x, 1, 0⟩ := by simpa [vTx] using hy
    rcases this with rfl | rfl
    · exact ⟨w32_0, w32_0⟩
    · exact ⟨w32_1, w32_0⟩
  os := by
    intro y hy
    obtain rfl : y = oO 9000 := by simpa [vTx] using hy
    simp [oO]
theorem wEnt_wf : EntWf (entry wTx 0 0) where
  t := wTx_wf
  d := by show (dusts wTx).length ≤ 1000; rw [dusts_w]; simp
  id := txid_ok _
  iv := by
    intro x hx
    obtain rfl : x = ⟨zid, 1, 0⟩ := by simpa [entry, wTx] using hx
    exact zid_ok
theorem spends_u (e : Ent) (sp : Pt → Option ID) (he : e.tx = wTx) : Pool.spends ⟨[e], sp⟩ (uTx e.id) = 26 := by
  have hfe : Pool.find ⟨[e], sp⟩ e.id = some e := by simp [Pool.find]
  simp [Pool.spends, Pool.parents, uTx, hfe, Pool.bad, he, dusts_w, badI, points]
theorem spends_v (e : Ent) (sp : Pt → Option ID) (he : e.tx = wTx) : Pool.spends ⟨[e], sp⟩ (vTx e.id) = 0 := by
  have hfe : Pool.find ⟨[e], sp⟩ e.id = some e := by simp [Pool.find]
  simp [Pool.spends, Pool.parents, vTx, hfe, Pool.bad, he, dusts_w, badI, points]
theorem fee_w (fee : Int) : feeI wTx fee = if 0 < fee then 18 else 0 := by simp [feeI, dusts_w]
theorem fee_u (x : ID) (fee : Int) : feeI (uTx x) fee = 0 := by simp [feeI, dusts_u]
set_option maxHeartbeats 1500000 in
set_option maxRecDepth 100000 in
theorem awake_of (t : Tx) (hv3 : t.version = 3) (hl0 : t.lock = 0) (hti : t.ins = [⟨zid, 1, 0⟩]) (hto : t.outs = wOut) (hwf : TxWf t) (hewf : EntWf (entry t 0 0))
    (hspu : ∀ (e : Ent) (sp : Pt → Option ID), e.tx = t → Pool.spends ⟨[e], sp⟩ (uTx e.id) = 26) (hspv : ∀ (e : Ent) (sp : Pt → Option ID), e.tx = t → Pool.spends ⟨[e], sp⟩ (vTx e.id) = 0)
    (hfw : ∀ fee, feeI t fee = if 0 < fee then 18 else 0) : AwakeOk := by
  intro w hGL
  have HV := Lib.hid hv3
  have HL := Lib.hid hl0
  have HTI := Lib.hid hti
  have HTO := Lib.hid hto
  have HSU := Lib.hid hspu
  have HSV := Lib.hid hspv
  have HFW := Lib.hid hfw
  have HTX : Hid (∀ i u : Value, txc t i u = [.int .u32 3, i, u, .int .u32 0]) := Lib.hid (fun i u => by simp [txc, hv3, hl0])
  clear hv3 hl0 hti hto hspu hspv hfw
  have hw6 := HB.new w 28 (inc ⟨zid, 1, 0⟩)
  have hbs := HB.new (w.alloc (.cells (inc ⟨zid, 1, 0⟩).toArray 28)) 5 [.int .u8 0, .int .u8 20]
  have hz1 : (w.alloc (.cells (inc ⟨zid, 1, 0⟩).toArray 28)).heap.size = w.heap.size + 1 := by simp
  rw [hz1] at hbs
  have kc := fun (W : World) (C : Array Value) (n c : Nat) => Lib.run_convert_bytes_const W 25 5 C n c Tryd.underlying25 Tryd.underlying5
  go_enter Tryd.func9, Tryd.ntmps9
  go_wp2_with (first
    | (with_reducible refine wpList_at 6 ?_; go_loud (refine wpList_buildV rfl 28 _ rfl [(1, .int .u32 1)] rfl _ (run_build_in1 1 w) ?_))
    | (with_reducible refine wpList_at 7 ?_; go_loud (refine wpList_slice1 rfl 29 28 (.tmp 6) rfl zIn 36 96 Tryd.underlying29 infoIn (by decide) (by decide) zcIn (inc ⟨zid, 1, 0⟩) rfl (inc_length _) ?_))
    | (with_reducible refine wpList_at 9 ?_; go_loud (refine wpList_appZ (.tmp 8) rfl rfl (w.heap.size + 1) 0 20 rfl hbs ?_); intro v1 w1 hv1 hb1; obtain ⟨a1, c1, hve, _, _⟩ := (Ts.own hv1).form; subst hve; have hsl1 : Sl (.slice (some ⟨w.heap.size, 0, none⟩) 1 1) := Sl.mk _ _ _; have hsl2 : Sl (.slice (some ⟨w1.heap.size + 1, 0, none⟩) 2 2) := Sl.mk _ _ _)
    | (with_reducible refine wpList_at 10 ?_; go_loud (refine wpList_buildV rfl 34 _ rfl [(0, .int .u64 9000), (1, .slice a1 22 c1)] rfl _ (run_build_out 9000 _ _ _ w1) ?_))
    | (with_reducible refine wpList_at 15 ?_; go_loud (refine wpList_buildV rfl 32 _ rfl [(0, .int .u32 3), (1, .slice (some ⟨w.heap.size, 0, none⟩) 1 1), (2, .slice (some ⟨w1.heap.size + 1, 0, none⟩) 2 2)] rfl _ (run_build_tx2 3 _ _ _ _ _ _ _) ?_))
    | (with_reducible refine wpList_at 1 ?_; go_loud (refine asTx (.tmp 15) 1 (aTx 0) (.slice (some ⟨w.heap.size, 0, none⟩) 1 1) (.slice (some ⟨w1.heap.size + 1, 0, none⟩) 2 2) hsl1 hsl2 rfl rfl rfl rfl rfl rfl rfl rfl ?_))
    | fail)
  have hbw1 : Below w.heap.size w w1 := (((Below.refl w.heap.size w).alloc (Nat.le_refl _) (.cells (inc ⟨zid, 1, 0⟩).toArray 28)).alloc (by simp) (.cells #[.int .u8 0, .int .u8 20] 5)).trans (hb1.mono (by simp; omega))
  have hsb1 := hbw1.size
  have hlt1 : w.heap.size + 2 ≤ w1.heap.size := by have := hb1.size; simpa using this
  have g6 : HB w1 w.heap.size 28 (inc ⟨zid, 1, 0⟩) := (hw6.alloc (.cells #[.int .u8 0, .int .u8 20] 5)).belowB hb1 (by simp; omega)
  obtain ⟨W, hWd, ht, hTI, hro, hro1, hbW, hsW⟩ : ∃ W, ((w1.alloc (.cells #[.int .u8 81, .int .u8 2, .int .u8 78, .int .u8 115] 5 (4, 5))).alloc (.cells #[.int .u64 9000, .slice a1 22 c1, .int .u64 0, .slice (some ⟨w1.heap.size, 0, none⟩) 4 4] 34)).alloc (.cells (txc (aTx 0) (.slice (some ⟨w.heap.size, 0, none⟩) 1 1) (.slice (some ⟨w1.heap.size + 1, 0, none⟩) 2 2)).toArray 32) = W ∧
      HB W (w1.heap.size + 2) 32 (txc t (.slice (some ⟨w.heap.size, 0, none⟩) 1 1) (.slice (some ⟨w1.heap.size + 1, 0, none⟩) 2 2)) ∧ RIns W (.slice (some ⟨w.heap.size, 0, none⟩) 1 1) t.ins ∧ ROuts W (.slice (some ⟨w1.heap.size + 1, 0, none⟩) 2 2) t.outs ∧
      ROuts W (.slice (some ⟨w1.heap.size + 1, 0, none⟩) 1 2) [oO 9000] ∧ Below w.heap.size w W ∧ W.heap.size = w1.heap.size + 3 := by
    refine ⟨_, rfl, ?_⟩
    have q1 : Below w1.heap.size w1 (w1.alloc (.cells #[.int .u8 81, .int .u8 2, .int .u8 78, .int .u8 115] 5 (4, 5))) := (Below.refl _ _).alloc (Nat.le_refl _) _
    have z1 : (w1.alloc (.cells #[.int .u8 81, .int .u8 2, .int .u8 78, .int .u8 115] 5 (4, 5))).heap.size = w1.heap.size + 1 := by simp
    have p1 : (w1.alloc (.cells #[.int .u8 81, .int .u8 2, .int .u8 78, .int .u8 115] 5 (4, 5))).heap[w1.heap.size]? = some (.cells #[.int .u8 81, .int .u8 2, .int .u8 78, .int .u8 115] 5 (4, 5)) := heap_alloc_new w1 _
    generalize w1.alloc (.cells #[.int .u8 81, .int .u8 2, .int .u8 78, .int .u8 115] 5 (4, 5)) = x1 at *
    have q2 : Below x1.heap.size x1 (x1.alloc (.cells #[.int .u64 9000, .slice a1 22 c1, .int .u64 0, .slice (some ⟨w1.heap.size, 0, none⟩) 4 4] 34)) := (Below.refl _ _).alloc (Nat.le_refl _) _
    have z2 : (x1.alloc (.cells #[.int .u64 9000, .slice a1 22 c1, .int .u64 0, .slice (some ⟨w1.heap.size, 0, none⟩) 4 4] 34)).heap.size = w1.heap.size + 2 := by simp [z1]
    have p2 : HB (x1.alloc (.cells #[.int .u64 9000, .slice a1 22 c1, .int .u64 0, .slice (some ⟨w1.heap.size, 0, none⟩) 4 4] 34)) x1.heap.size 34 [.int .u64 9000, .slice a1 22 c1, .int .u64 0, .slice (some ⟨w1.heap.size, 0, none⟩) 4 4] := heap_alloc_new x1 _
    rw [z1] at p2
    generalize x1.alloc (.cells #[.int .u64 9000, .slice a1 22 c1, .int .u64 0, .slice (some ⟨w1.heap.size, 0, none⟩) 4 4] 34) = x2 at *
    have q3 : Below x2.heap.size x2 (x2.alloc (.cells (txc (aTx 0) (.slice (some ⟨w.heap.size, 0, none⟩) 1 1) (.slice (some ⟨w1.heap.size + 1, 0, none⟩) 2 2)).toArray 32)) := (Below.refl _ _).alloc (Nat.le_refl _) _
    have z3 : (x2.alloc (.cells (txc (aTx 0) (.slice (some ⟨w.heap.size, 0, none⟩) 1 1) (.slice (some ⟨w1.heap.size + 1, 0, none⟩) 2 2)).toArray 32)).heap.size = w1.heap.size + 3 := by simp [z2]
    have p3 := HB.new x2 32 (txc (aTx 0) (.slice (some ⟨w.heap.size, 0, none⟩) 1 1) (.slice (some ⟨w1.heap.size + 1, 0, none⟩) 2 2))
    rw [z2] at p3
    generalize x2.alloc (.cells (txc (aTx 0) (.slice (some ⟨w.heap.size, 0, none⟩) 1 1) (.slice (some ⟨w1.heap.size + 1, 0, none⟩) 2 2)).toArray 32) = x3 at *
    have s1 := q1.size
    have s2 := q2.size
    have hB13 : Below w1.heap.size w1 x3 := (q1.trans (q2.mono (by omega))).trans (q3.mono (by omega))
    have hB23 : Below x2.heap.size x2 x3 := q3
    have hs1 : RBy x3 (.slice a1 22 c1) (oO 9000).script := (Ts.below (Ts.own hv1) hB13).rd
    have hp1 : x3.heap[w1.heap.size]? = some (.cells #[.int .u8 81, .int .u8 2, .int .u8 78, .int .u8 115] 5 (4, 5)) := ((q3.block _ (by omega)).trans (q2.block _ (by omega))).trans p1
    have hs2 : RBy x3 (.slice (some ⟨w1.heap.size, 0, none⟩) 4 4) [81, 2, 78, 115] := Rd.of_block hp1 (.inl rfl) rfl (by decide) (fun j u hu => by simpa [byc] using hu)
    have hp2 := p2.below q3
    refine ⟨by rw [HTX.out]; exact p3, ?_, ?_, ?_, hbw1.trans (hB13.mono (by omega)), z3⟩
    · have := Rd.of_block (k := 36) (n := 1) (off := 0) (cells := inc ⟨zid, 1, 0⟩) (g6.below hB13).hp (.inl rfl) (by simp) (by decide) (fun j u hu => by simpa using hu)
      unfold RIns
      rw [HTI.out]
      simpa using this
    · rw [HTO.out]
      refine ⟨[[.int .u64 9000, .slice a1 22 c1], [.int .u64 0, .slice (some ⟨w1.heap.size, 0, none⟩) 4 4]], ?_, by intro c hc; simp at hc; rcases hc with rfl | rfl <;> rfl, .cons ⟨_, rfl, hs1⟩ (.cons ⟨_, rfl, hs2⟩ .nil)⟩
      exact Rd.of_block hp2.hp (.inl rfl) rfl (by decide) (fun j u hu => by simpa using hu)
    · refine ⟨[[.int .u64 9000, .slice a1 22 c1]], ?_, by intro c hc; simp at hc; subst hc; rfl, .cons ⟨_, rfl, hs1⟩ .nil⟩
      refine ⟨rfl, _, 2, rfl, by decide, by decide, .inr ⟨_, 0, _, _, _, rfl, hp2.hp, .inl rfl, fun j u hu => ?_⟩⟩
      have := (List.getElem?_eq_some_iff.1 hu).1
      match j, hu with
      | 0, hu => simpa using hu
      | 1, hu => simpa using hu
      | j + 2, hu => simp at hu
  rw [hWd]
  have hWge : w1.heap.size + 3 ≤ W.heap.size := Nat.le_of_eq hsW.symm
  clear hsW
  have hG1 := hGL.below hbW
  clear hWd hw6 hbs hz1 kc hv1 hb1 hbw1 g6
  refine (New_ok W).mono ?_
  rintro e w2 ⟨rfl, hP2, hb2⟩
  have ht2 := ht.below hb2
  have hs2 := hb2.size
  have hlt2 : W.heap.size + 2 < w2.heap.size := hP2.hb.lt
  have r19 := ht2.range
  go_wp2_with (first
    | (with_reducible refine wpList_at 19 ?_; go_loud (refine ldTx (w := w2) (.tmp 1) _ _ t _ _ rfl rfl rfl r19 ?_))
    | fail)
  refine (Entry_ok t (.slice (some ⟨w.heap.size, 0, none⟩) 1 1) (.slice (some ⟨w1.heap.size + 1, 0, none⟩) 2 2) 0 0 w2 hwf (RIns.below hTI hb2) (ROuts.below hro hb2) (hG1.below hb2)).mono ?_
  rintro e w3 ⟨i', u', d', rfl, hI3, hU3, hD3, hb3⟩
  have hE3 : TEnt w3 0 (entry t 0 0) i' u' d' := ⟨hI3.mono (Nat.zero_le _), hU3.mono (Nat.zero_le _), hD3.mono (Nat.zero_le _)⟩
  have hs3 := hb3.size
  have hEw := hewf
  have hEtx : (entry t 0 0).tx = t := rfl
  clear hI3 hU3 hD3 hewf
  generalize entry t 0 0 = en at *
  have hsi := hE3.i.sl
  have hsu := hE3.u.sl
  have hsd := hE3.d.rd.sl
  have r22 := (HB.new w3 42 (entc en i' u' d')).range
  go_wp2_with (first
    | (with_reducible refine wpList_at 3 ?_; go_loud (refine asEnt (.tmp 20) 3 en i' u' d' hsi hsu hsd rfl rfl rfl rfl rfl rfl rfl rfl ?_))
    | (with_reducible refine wpList_at 22 ?_; go_loud (refine ldEnt (.tmp 3) _ _ en i' u' d' rfl rfl rfl r22 ?_))
    | fail)
  have hb4 : Below w3.heap.size w3 (w3.alloc (.cells (entc en i' u' d').toArray 42)) := (Below.refl _ _).alloc (Nat.le_refl _) _
  have he4 := HB.new w3 42 (entc en i' u' d')
  have hs4 : (w3.alloc (.cells (entc en i' u' d').toArray 42)).heap.size = w3.heap.size + 1 := by simp
  generalize w3.alloc (.cells (entc en i' u' d').toArray 42) = w4 at *
  have hP4 := (hP2.below hb3).below hb4
  refine (Add_ok W.heap.size w4 (W.heap.size + 2) W.heap.size (W.heap.size + 1) (.slice none 0 0) ⟨[], fun _ => none⟩ en i' u' d' hP4 hEw (by simp) (hE3.below hb4)).mono ?_
  rintro e w5 ⟨rfl, ov5, hP5, hb5, hex5⟩
  rw [empty_put] at hP5
  have hbr5 : Below W.heap.size W w5 := hb2.trans (((hb3.mono (by omega)).trans (hb4.mono (by omega))).trans hb5)
  have ht5 := ht.below hbr5
  have he5 : HB w5 w3.heap.size 42 (entc en i' u' d') := he4.of_heap (hex5 _ (by omega) (by omega) (by omega) (by omega) (by simp [Value.ownBlock]))
  have hTI5 := RIns.below hTI hbr5
  have hro5 := ROuts.below hro hbr5
  have hro15 := ROuts.below hro1 hbr5
  have hG5 := hG1.below hbr5
  have hBw5 : Below w.heap.size w w5 := hbW.trans (hbr5.mono (by omega))
  have hs5 := hb5.size
  have hsw5 : W.heap.size < w5.heap.size := by omega
  clear hP2 hb2 ht2 r19 hE3 r22 hb4 he4 hP4 hb5 hex5 hbr5 ht hTI hro hro1 hG1 hb3 hbW
  go_upto_region 7 with fail
  go_cut [4, 27, 31] (fun x4 x27 x31 wx => ∃ g g4 : Nat, x4 = .pointer (some ⟨g4, 0, none⟩) ∧ HB wx g4 32 (txc (uTx en.id) (.slice (some ⟨g, 0, none⟩) 1 1) (.slice (some ⟨w1.heap.size + 1, 0, none⟩) 1 2)) ∧ HB wx g 28 (inc ⟨en.id, 0, 0⟩) ∧ Below w5.heap.size w5 wx ∧ w5.heap.size ≤ g4 ∧ w5.heap.size ≤ g)
  case first =>
    refine region_fork (by rfl) (fun w' => Below w5.heap.size w5 w') [(0, true), (1, true), (2, true), (4, true), (5, true), (6, true)] 3 8 [(7, true), (8, false), (9, false)] [(3, false), (7, true), (9, false)] (fun _ _ d _ _ h => by cases d <;> exact h) rfl (by simp) (by kernel_rfl) (by kernel_rfl) ((Below.refl _ _).drew) ?_
    simp only [one, pick, List.getElem?_cons_succ, List.getElem?_cons_zero, List.drop_succ_cons, List.drop_zero, List.length_cons, List.length_nil, List.drop_nil]
    have q1 : ∀ w', Below w5.heap.size w5 w' → w'.rangeAt w3.heap.size 4 (idc en.id) := fun w' h => (he5.below h).sub (entc_id_get en i' u' d')
    have q2 : ∀ w', Below w5.heap.size w5 w' → w'.cell? ⟨w1.heap.size + 2, 2, none⟩ = some (.slice (some ⟨w1.heap.size + 1, 0, none⟩) 2 2) := fun w' h => (ht5.below h).cell (j := 2) rfl
    have hs0 : w5.drew.heap.size = w5.heap.size := rfl
    have hb0 : Below w5.heap.size w5 w5.drew := (Below.refl _ _).drew
    generalize w5.drew = W0 at *
    refine lexField 42 (.tmp 3) 1 w3.heap.size 0 4 rfl rfl rfl (faEnt1 _ _) ?_
    simp only [Act.put, List.setIfInBounds_toArray, List.set_cons_zero, List.set_cons_succ]
    refine lexLoad 24 (.tmp 24) w3.heap.size 4 (idc en.id) _ rfl rfl rfl q1 Tryd.underlying24 rfl (by rw [idc_length]; exact szID) ?_
    simp only [Act.put, List.setIfInBounds_toArray, List.set_cons_zero, List.set_cons_succ]
    refine lexBuild 28 _ [(0, .agg (idc en.id).toArray)] _ rfl rfl rfl (run_build_in3 en.id) ?_
    simp only [Act.put, List.setIfInBounds_toArray, List.set_cons_zero, List.set_cons_succ]
    refine lexField 32 (.tmp 1) 2 (w1.heap.size + 2) 0 2 rfl rfl rfl (faTx2 _ _) ?_
    simp only [Act.put, List.setIfInBounds_toArray, List.set_cons_zero, List.set_cons_succ]
    refine lexLoad1 30 (.tmp 28) (w1.heap.size + 2) 2 _ _ rfl rfl rfl q2 Tryd.underlying30 rfl ?_
    simp only [Act.put, List.setIfInBounds_toArray, List.set_cons_zero, List.set_cons_succ]
    refine lexSliceHi 30 (.tmp 29) (.const (.int .i64 1)) _ _ (.slice (some ⟨w1.heap.size + 1, 0, none⟩) 1 2) rfl rfl rfl rfl (run_slice1 _) ?_
    simp only [Act.put, List.setIfInBounds_toArray, List.set_cons_zero, List.set_cons_succ]
    change _ ∧ _
    refine ⟨⟨trivial, ?_⟩, ⟨trivial, ?_⟩⟩
    · refine wp_slice1 29 28 (.tmp 26) rfl zIn 36 96 Tryd.underlying29 infoIn (by decide) (by decide) zcIn (inc ⟨en.id, 0, 0⟩) rfl (inc_length _) ?_
      have a1' := HB.new W0 28 (inc ⟨en.id, 0, 0⟩)
      have z1 : (W0.alloc (.cells (inc ⟨en.id, 0, 0⟩).toArray 28)).heap.size = w5.heap.size + 1 := by simp [hs0]
      have bb1 : Below w5.heap.size w5 (W0.alloc (.cells (inc ⟨en.id, 0, 0⟩).toArray 28)) := hb0.alloc (by omega) _
      refine ⟨bb1, ?_⟩
      rw [hs0] at a1' ⊢
      generalize W0.alloc (.cells (inc ⟨en.id, 0, 0⟩).toArray 28) = W1 at *
      simp only [Act.put, List.setIfInBounds_toArray, List.set_cons_zero, List.set_cons_succ]
      refine lexBuild 32 _ [(0, .int .u32 3), (1, .slice (some ⟨w5.heap.size, 0, none⟩) 1 1), (2, .slice (some ⟨w1.heap.size + 1, 0, none⟩) 1 2)] _ rfl rfl rfl (run_build_tx2 3 _ _ _ _ _ _) ?_
      simp only [Act.put, List.setIfInBounds_toArray, List.set_cons_zero, List.set_cons_succ]
      refine lexOp rfl (wp_alloc 32 rfl 4 _ infoTx ?_)
      have k2 := HB.new W1 32 [.int .u32 0, .slice none 0 0, .slice none 0 0, .int .u32 0]
      have k1 := a1'.alloc (.cells (Value.agg #[.int .u32 0, .slice none 0 0, .slice none 0 0, .int .u32 0]).cells 32)
      have bb2 : Below w5.heap.size w5 (W1.alloc (.cells (Value.agg #[.int .u32 0, .slice none 0 0, .slice none 0 0, .int .u32 0]).cells 32)) := bb1.alloc (by omega) _
      refine ⟨bb2, ?_⟩
      rw [z1] at k2 ⊢
      change HB (W1.alloc (.cells (Value.agg #[.int .u32 0, .slice none 0 0, .slice none 0 0, .int .u32 0]).cells 32)) _ _ _ at k2
      generalize W1.alloc (.cells (Value.agg #[.int .u32 0, .slice none 0 0, .slice none 0 0, .int .u32 0]).cells 32) = W2 at *
      simp only [Act.put, List.setIfInBounds_toArray, List.set_cons_zero, List.set_cons_succ]
      refine lexOp rfl (wp_store_row 32 (.tmp 4) (.tmp 31) rfl (w5.heap.size + 1) (txc (uTx en.id) (.slice (some ⟨w5.heap.size, 0, none⟩) 1 1) (.slice (some ⟨w1.heap.size + 1, 0, none⟩) 1 2)).toArray rfl rfl _ _ k2.hp szTx rfl (by simp [txc, Value.oneCell']) ?_)
      have k1' := k1.setRowOther (w5.heap.size + 1) (txc (uTx en.id) (.slice (some ⟨w5.heap.size, 0, none⟩) 1 1) (.slice (some ⟨w1.heap.size + 1, 0, none⟩) 1 2)).toArray (by omega)
      have k2' := k2.setRow (txc (uTx en.id) (.slice (some ⟨w5.heap.size, 0, none⟩) 1 1) (.slice (some ⟨w1.heap.size + 1, 0, none⟩) 1 2))
      have bb3 := Below.setRow bb2 (show w5.heap.size ≤ w5.heap.size + 1 by omega) (txc (uTx en.id) (.slice (some ⟨w5.heap.size, 0, none⟩) 1 1) (.slice (some ⟨w1.heap.size + 1, 0, none⟩) 1 2)).toArray
      refine ⟨bb3, ?_⟩
      simp only [Act.put, List.setIfInBounds_toArray, List.set_cons_zero, List.set_cons_succ, wpLex, wpList]
      generalize W2.setRow (w5.heap.size + 1) (txc (uTx en.id) (.slice (some ⟨w5.heap.size, 0, none⟩) 1 1) (.slice (some ⟨w1.heap.size + 1, 0, none⟩) 1 2)).toArray = W3 at *
      go_wp2_with fail
      go_meet
      case rel => exact ⟨w5.heap.size, w5.heap.size + 1, rfl, k2', k1', bb3, by omega, by omega⟩
    · refine wp_alloc 32 rfl 4 _ infoTx ?_
      have a2' := HB.new W0 32 [.int .u32 0, .slice none 0 0, .slice none 0 0, .int .u32 0]
      change HB (W0.alloc (.cells (Value.agg #[.int .u32 0, .slice none 0 0, .slice none 0 0, .int .u32 0]).cells 32)) _ _ _ at a2'
      have z1 : (W0.alloc (.cells (Value.agg #[.int .u32 0, .slice none 0 0, .slice none 0 0, .int .u32 0]).cells 32)).heap.size = w5.heap.size + 1 := by simp [hs0]
      have bb1 : Below w5.heap.size w5 (W0.alloc (.cells (Value.agg #[.int .u32 0, .slice none 0 0, .slice none 0 0, .int .u32 0]).cells 32)) := hb0.alloc (by omega) _
      refine ⟨bb1, ?_⟩
      rw [hs0] at a2' ⊢
      generalize W0.alloc (.cells (Value.agg #[.int .u32 0, .slice none 0 0, .slice none 0 0, .int .u32 0]).cells 32) = W1 at *
      simp only [Act.put, List.setIfInBounds_toArray, List.set_cons_zero, List.set_cons_succ]
      refine lexOp rfl (wp_slice1 29 28 (.tmp 26) rfl zIn 36 96 Tryd.underlying29 infoIn (by decide) (by decide) zcIn (inc ⟨en.id, 0, 0⟩) rfl (inc_length _) ?_)
      have k1 := HB.new W1 28 (inc ⟨en.id, 0, 0⟩)
      have k2 := a2'.alloc (.cells (inc ⟨en.id, 0, 0⟩).toArray 28)
      have bb2 : Below w5.heap.size w5 (W1.alloc (.cells (inc ⟨en.id, 0, 0⟩).toArray 28)) := bb1.alloc (by omega) _
      refine ⟨bb2, ?_⟩
      rw [z1] at k1 ⊢
      generalize W1.alloc (.cells (inc ⟨en.id, 0, 0⟩).toArray 28) = W2 at *
      simp only [Act.put, List.setIfInBounds_toArray, List.set_cons_zero, List.set_cons_succ]
      refine lexBuild 32 _ [(0, .int .u32 3), (1, .slice (some ⟨w5.heap.size + 1, 0, none⟩) 1 1), (2, .slice (some ⟨w1.heap.size + 1, 0, none⟩) 1 2)] _ rfl rfl rfl (run_build_tx2 3 _ _ _ _ _ _) ?_
      simp only [Act.put, List.setIfInBounds_toArray, List.set_cons_zero, List.set_cons_succ]
      refine lexOp rfl (wp_store_row 32 (.tmp 4) (.tmp 31) rfl (w5.heap.size) (txc (uTx en.id) (.slice (some ⟨w5.heap.size + 1, 0, none⟩) 1 1) (.slice (some ⟨w1.heap.size + 1, 0, none⟩) 1 2)).toArray rfl rfl _ _ k2.hp szTx rfl (by simp [txc, Value.oneCell']) ?_)
      have k1' := k1.setRowOther (w5.heap.size) (txc (uTx en.id) (.slice (some ⟨w5.heap.size + 1, 0, none⟩) 1 1) (.slice (some ⟨w1.heap.size + 1, 0, none⟩) 1 2)).toArray (by omega)
      have k2' := k2.setRow (txc (uTx en.id) (.slice (some ⟨w5.heap.size + 1, 0, none⟩) 1 1) (.slice (some ⟨w1.heap.size + 1, 0, none⟩) 1 2))
      have bb3 := Below.setRow bb2 (show w5.heap.size ≤ w5.heap.size by omega) (txc (uTx en.id) (.slice (some ⟨w5.heap.size + 1, 0, none⟩) 1 1) (.slice (some ⟨w1.heap.size + 1, 0, none⟩) 1 2)).toArray
      refine ⟨bb3, ?_⟩
      simp only [Act.put, List.setIfInBounds_toArray, List.set_cons_zero, List.set_cons_succ, wpLex, wpList]
      generalize W2.setRow (w5.heap.size) (txc (uTx en.id) (.slice (some ⟨w5.heap.size + 1, 0, none⟩) 1 1) (.slice (some ⟨w1.heap.size + 1, 0, none⟩) 1 2)).toArray = W3 at *
      go_wp2_with fail
      go_meet
      case rel => exact ⟨w5.heap.size + 1, w5.heap.size, rfl, k2', k1', bb3, by omega, by omega⟩
  case rest =>
    obtain ⟨gu, gt, rfl, hu6, hgu6, hb6, hgt, hgu⟩ := hcut
    have he6 := he5.below hb6
    have ht6 := ht5.below hb6
    have hP6 := hP5.below hb6
    have hG6 := hG5.below hb6
    have hro6 := ROuts.below hro5 hb6
    have hro16 := ROuts.below hro15 hb6
    have hTI6 := RIns.below hTI5 hb6
    have hBw6 := hBw5.trans (hb6.mono (by have := hBw5.size; omega))
    have hs6 := hb6.size
    clear he5 ht5 hP5 hG5 hro5 hro15 hTI5 hBw5 hb6
    generalize wc = w6 at *
    go_upto_region 8 with fail
    go_cut [5, 38, 42] (fun x5 x38 x42 wx => ∃ g g4 : Nat, x5 = .pointer (some ⟨g4, 0, none⟩) ∧ HB wx g4 32 (txc (vTx en.id) (.slice (some ⟨g, 0, none⟩) 2 2) (.slice (some ⟨w1.heap.size + 1, 0, none⟩) 1 2)) ∧ HB wx g 28 (inc ⟨en.id, 0, 0⟩ ++ inc ⟨en.id, 1, 0⟩) ∧ Below w6.heap.size w6 wx ∧ w6.heap.size ≤ g4 ∧ w6.heap.size ≤ g)
    case first =>
      refine region_fork (by rfl) (fun w' => Below w6.heap.size w6 w') [(0, true), (1, true), (2, true), (3, true), (4, true), (5, true), (7, true), (8, true), (9, true)] 6 11 [(10, true), (11, false), (12, false)] [(6, false), (10, true), (12, false)] (fun _ _ d _ _ h => by cases d <;> exact h) rfl (by simp) (by kernel_rfl) (by kernel_rfl) ((Below.refl _ _).drew) ?_
      simp only [one, pick, List.getElem?_cons_succ, List.getElem?_cons_zero, List.drop_succ_cons, List.drop_zero, List.length_cons, List.length_nil, List.drop_nil]
      have q1 : ∀ w', Below w6.heap.size w6 w' → w'.rangeAt w3.heap.size 4 (idc en.id) := fun w' h => (he6.below h).sub (entc_id_get en i' u' d')
      have q2 : ∀ w', Below w6.heap.size w6 w' → w'.cell? ⟨w1.heap.size + 2, 2, none⟩ = some (.slice (some ⟨w1.heap.size + 1, 0, none⟩) 2 2) := fun w' h => (ht6.below h).cell (j := 2) rfl
      have hs0 : w6.drew.heap.size = w6.heap.size := rfl
      have hb0 : Below w6.heap.size w6 w6.drew := (Below.refl _ _).drew
      generalize w6.drew = W0 at *
      refine lexField 42 (.tmp 3) 1 w3.heap.size 0 4 rfl rfl rfl (faEnt1 _ _) ?_
      simp only [Act.put, List.setIfInBounds_toArray, List.set_cons_zero, List.set_cons_succ]
      refine lexLoad 24 (.tmp 32) w3.heap.size 4 (idc en.id) _ rfl rfl rfl q1 Tryd.underlying24 rfl (by rw [idc_length]; exact szID) ?_
      simp only [Act.put, List.setIfInBounds_toArray, List.set_cons_zero, List.set_cons_succ]
      refine lexBuild 28 _ [(0, .agg (idc en.id).toArray)] _ rfl rfl rfl (run_build_in3 en.id) ?_
      simp only [Act.put, List.setIfInBounds_toArray, List.set_cons_zero, List.set_cons_succ]
      refine lexField 42 (.tmp 3) 1 w3.heap.size 0 4 rfl rfl rfl (faEnt1 _ _) ?_
      simp only [Act.put, List.setIfInBounds_toArray, List.set_cons_zero, List.set_cons_succ]
      refine lexLoad 24 (.tmp 35) w3.heap.size 4 (idc en.id) _ rfl rfl rfl q1 Tryd.underlying24 rfl (by rw [idc_length]; exact szID) ?_
      simp only [Act.put, List.setIfInBounds_toArray, List.set_cons_zero, List.set_cons_succ]
      refine lexBuild 28 _ [(0, .agg (idc en.id).toArray), (1, .int .u32 1)] _ rfl rfl rfl (run_build_in4 en.id) ?_
      simp only [Act.put, List.setIfInBounds_toArray, List.set_cons_zero, List.set_cons_succ]
      refine lexField 32 (.tmp 1) 2 (w1.heap.size + 2) 0 2 rfl rfl rfl (faTx2 _ _) ?_
      simp only [Act.put, List.setIfInBounds_toArray, List.set_cons_zero, List.set_cons_succ]
      refine lexLoad1 30 (.tmp 39) (w1.heap.size + 2) 2 _ _ rfl rfl rfl q2 Tryd.underlying30 rfl ?_
      simp only [Act.put, List.setIfInBounds_toArray, List.set_cons_zero, List.set_cons_succ]
      refine lexSliceHi 30 (.tmp 40) (.const (.int .i64 1)) _ _ (.slice (some ⟨w1.heap.size + 1, 0, none⟩) 1 2) rfl rfl rfl rfl (run_slice1 _) ?_
      simp only [Act.put, List.setIfInBounds_toArray, List.set_cons_zero, List.set_cons_succ]
      change _ ∧ _
      refine ⟨⟨trivial, ?_⟩, ⟨trivial, ?_⟩⟩
      · refine wp_slice2 29 28 (.tmp 34) (.tmp 37) rfl zIn 36 96 Tryd.underlying29 infoIn (by decide) (by decide) (.agg (inc ⟨en.id, 0, 0⟩).toArray) (.agg (inc ⟨en.id, 1, 0⟩).toArray) rfl rfl (inc ⟨en.id, 0, 0⟩ ++ inc ⟨en.id, 1, 0⟩) (fill2 en.id) ?_
        have a1' := HB.new W0 28 (inc ⟨en.id, 0, 0⟩ ++ inc ⟨en.id, 1, 0⟩)
        have z1 : (W0.alloc (.cells (inc ⟨en.id, 0, 0⟩ ++ inc ⟨en.id, 1, 0⟩).toArray 28)).heap.size = w6.heap.size + 1 := by simp only [World.alloc, Array.size_push, hs0]
        have bb1 : Below w6.heap.size w6 (W0.alloc (.cells (inc ⟨en.id, 0, 0⟩ ++ inc ⟨en.id, 1, 0⟩).toArray 28)) := hb0.alloc (by omega) _
        refine ⟨bb1, ?_⟩
        rw [hs0] at a1' ⊢
        generalize W0.alloc (.cells (inc ⟨en.id, 0, 0⟩ ++ inc ⟨en.id, 1, 0⟩).toArray 28) = W1 at *
        simp only [Act.put, List.setIfInBounds_toArray, List.set_cons_zero, List.set_cons_succ]
        refine lexBuild 32 _ [(0, .int .u32 3), (1, .slice (some ⟨w6.heap.size, 0, none⟩) 2 2), (2, .slice (some ⟨w1.heap.size + 1, 0, none⟩) 1 2)] _ rfl rfl rfl (run_build_tx2 3 _ _ _ _ _ _) ?_
        simp only [Act.put, List.setIfInBounds_toArray, List.set_cons_zero, List.set_cons_succ]
        refine lexOp rfl (wp_alloc 32 rfl 4 _ infoTx ?_)
        have k2 := HB.new W1 32 [.int .u32 0, .slice none 0 0, .slice none 0 0, .int .u32 0]
        have k1 := a1'.alloc (.cells (Value.agg #[.int .u32 0, .slice none 0 0, .slice none 0 0, .int .u32 0]).cells 32)
        have bb2 : Below w6.heap.size w6 (W1.alloc (.cells (Value.agg #[.int .u32 0, .slice none 0 0, .slice none 0 0, .int .u32 0]).cells 32)) := bb1.alloc (by omega) _
        refine ⟨bb2, ?_⟩
        rw [z1] at k2 ⊢
        change HB (W1.alloc (.cells (Value.agg #[.int .u32 0, .slice none 0 0, .slice none 0 0, .int .u32 0]).cells 32)) _ _ _ at k2
        generalize W1.alloc (.cells (Value.agg #[.int .u32 0, .slice none 0 0, .slice none 0 0, .int .u32 0]).cells 32) = W2 at *
        simp only [Act.put, List.setIfInBounds_toArray, List.set_cons_zero, List.set_cons_succ]
        refine lexOp rfl (wp_store_row 32 (.tmp 5) (.tmp 42) rfl (w6.heap.size + 1) (txc (vTx en.id) (.slice (some ⟨w6.heap.size, 0, none⟩) 2 2) (.slice (some ⟨w1.heap.size + 1, 0, none⟩) 1 2)).toArray rfl rfl _ _ k2.hp szTx rfl (by simp [txc, Value.oneCell']) ?_)
        have k1' := k1.setRowOther (w6.heap.size + 1) (txc (vTx en.id) (.slice (some ⟨w6.heap.size, 0, none⟩) 2 2) (.slice (some ⟨w1.heap.size + 1, 0, none⟩) 1 2)).toArray (by omega)
        have k2' := k2.setRow (txc (vTx en.id) (.slice (some ⟨w6.heap.size, 0, none⟩) 2 2) (.slice (some ⟨w1.heap.size + 1, 0, none⟩) 1 2))
        have bb3 := Below.setRow bb2 (show w6.heap.size ≤ w6.heap.size + 1 by omega) (txc (vTx en.id) (.slice (some ⟨w6.heap.size, 0, none⟩) 2 2) (.slice (some ⟨w1.heap.size + 1, 0, none⟩) 1 2)).toArray
        refine ⟨bb3, ?_⟩
        simp only [Act.put, List.setIfInBounds_toArray, List.set_cons_zero, List.set_cons_succ, wpLex, wpList]
        generalize W2.setRow (w6.heap.size + 1) (txc (vTx en.id) (.slice (some ⟨w6.heap.size, 0, none⟩) 2 2) (.slice (some ⟨w1.heap.size + 1, 0, none⟩) 1 2)).toArray = W3 at *
        go_wp2_with fail
        go_meet
        case rel => exact ⟨w6.heap.size, w6.heap.size + 1, rfl, k2', k1', bb3, by omega, by omega⟩
      · refine wp_alloc 32 rfl 4 _ infoTx ?_
        have a2' := HB.new W0 32 [.int .u32 0, .slice none 0 0, .slice none 0 0, .int .u32 0]
        change HB (W0.alloc (.cells (Value.agg #[.int .u32 0, .slice none 0 0, .slice none 0 0, .int .u32 0]).cells 32)) _ _ _ at a2'
        have z1 : (W0.alloc (.cells (Value.agg #[.int .u32 0, .slice none 0 0, .slice none 0 0, .int .u32 0]).cells 32)).heap.size = w6.heap.size + 1 := by simp [hs0]
        have bb1 : Below w6.heap.size w6 (W0.alloc (.cells (Value.agg #[.int .u32 0, .slice none 0 0, .slice none 0 0, .int .u32 0]).cells 32)) := hb0.alloc (by omega) _
        refine ⟨bb1, ?_⟩
        rw [hs0] at a2' ⊢
        generalize W0.alloc (.cells (Value.agg #[.int .u32 0, .slice none 0 0, .slice none 0 0, .int .u32 0]).cells 32) = W1 at *
        simp only [Act.put, List.setIfInBounds_toArray, List.set_cons_zero, List.set_cons_succ]
        refine lexOp rfl (wp_slice2 29 28 (.tmp 34) (.tmp 37) rfl zIn 36 96 Tryd.underlying29 infoIn (by decide) (by decide) (.agg (inc ⟨en.id, 0, 0⟩).toArray) (.agg (inc ⟨en.id, 1, 0⟩).toArray) rfl rfl (inc ⟨en.id, 0, 0⟩ ++ inc ⟨en.id, 1, 0⟩) (fill2 en.id) ?_)
        have k1 := HB.new W1 28 (inc ⟨en.id, 0, 0⟩ ++ inc ⟨en.id, 1, 0⟩)
        have k2 := a2'.alloc (.cells (inc ⟨en.id, 0, 0⟩ ++ inc ⟨en.id, 1, 0⟩).toArray 28)
        have bb2 : Below w6.heap.size w6 (W1.alloc (.cells (inc ⟨en.id, 0, 0⟩ ++ inc ⟨en.id, 1, 0⟩).toArray 28)) := bb1.alloc (by omega) _
        refine ⟨bb2, ?_⟩
        rw [z1] at k1 ⊢
        generalize W1.alloc (.cells (inc ⟨en.id, 0, 0⟩ ++ inc ⟨en.id, 1, 0⟩).toArray 28) = W2 at *
        simp only [Act.put, List.setIfInBounds_toArray, List.set_cons_zero, List.set_cons_succ]
        refine lexBuild 32 _ [(0, .int .u32 3), (1, .slice (some ⟨w6.heap.size + 1, 0, none⟩) 2 2), (2, .slice (some ⟨w1.heap.size + 1, 0, none⟩) 1 2)] _ rfl rfl rfl (run_build_tx2 3 _ _ _ _ _ _) ?_
        simp only [Act.put, List.setIfInBounds_toArray, List.set_cons_zero, List.set_cons_succ]
        refine lexOp rfl (wp_store_row 32 (.tmp 5) (.tmp 42) rfl (w6.heap.size) (txc (vTx en.id) (.slice (some ⟨w6.heap.size + 1, 0, none⟩) 2 2) (.slice (some ⟨w1.heap.size + 1, 0, none⟩) 1 2)).toArray rfl rfl _ _ k2.hp szTx rfl (by simp [txc, Value.oneCell']) ?_)
        have k1' := k1.setRowOther (w6.heap.size) (txc (vTx en.id) (.slice (some ⟨w6.heap.size + 1, 0, none⟩) 2 2) (.slice (some ⟨w1.heap.size + 1, 0, none⟩) 1 2)).toArray (by omega)
        have k2' := k2.setRow (txc (vTx en.id) (.slice (some ⟨w6.heap.size + 1, 0, none⟩) 2 2) (.slice (some ⟨w1.heap.size + 1, 0, none⟩) 1 2))
        have bb3 := Below.setRow bb2 (show w6.heap.size ≤ w6.heap.size by omega) (txc (vTx en.id) (.slice (some ⟨w6.heap.size + 1, 0, none⟩) 2 2) (.slice (some ⟨w1.heap.size + 1, 0, none⟩) 1 2)).toArray
        refine ⟨bb3, ?_⟩
        simp only [Act.put, List.setIfInBounds_toArray, List.set_cons_zero, List.set_cons_succ, wpLex, wpList]
        generalize W2.setRow (w6.heap.size) (txc (vTx en.id) (.slice (some ⟨w6.heap.size + 1, 0, none⟩) 2 2) (.slice (some ⟨w1.heap.size + 1, 0, none⟩) 1 2)).toArray = W3 at *
        go_wp2_with fail
        go_meet
        case rel => exact ⟨w6.heap.size + 1, w6.heap.size, rfl, k2', k1', bb3, by omega, by omega⟩
    case rest =>
      obtain ⟨gv, gs, rfl, hv7, hgv7, hb7, hgs, hgv⟩ := hcut
      have ht7 := ht6.below hb7
      rw [HTX.out] at ht7
      have hP7 := hP6.below hb7
      have hu7 := hu6.below hb7
      have hgu7 := hgu6.below hb7
      have hro7 := ROuts.below hro6 hb7
      have hro17 := ROuts.below hro16 hb7
      have hBw7 := hBw6.trans (hb7.mono (by have := hBw6.size; omega))
      have hs7 := hb7.size
      clear he6 ht6 hP6 hu6 hgu6 hro6 hro16 hTI6 hBw6 hb7 hG6
      generalize wc = w7 at *
      have hsl3 : Sl (.slice (some ⟨gu, 0, none⟩) 1 1) := Sl.mk _ _ _
      have hru : RIns w7 (.slice (some ⟨gu, 0, none⟩) 1 1) (uTx en.id).ins := by
        have := Rd.of_block (k := 36) (n := 1) (off := 0) (cells := inc ⟨en.id, 0, 0⟩) hgu7.hp (.inl rfl) (by simp) (by decide) (fun j u hu => by simpa using hu)
        unfold RIns
        simpa [uTx] using this
      have hrv : RIns w7 (.slice (some ⟨gv, 0, none⟩) 2 2) (vTx en.id).ins := by
        have := Rd.of_block (k := 36) (n := 2) (off := 0) (cells := inc ⟨en.id, 0, 0⟩ ++ inc ⟨en.id, 1, 0⟩) hgv7.hp (.inl rfl) (by simp) (by decide) (fun j u hu => by simpa using hu)
        unfold RIns
        simpa [vTx] using this
      have hroU : ROuts w7 (.slice (some ⟨w1.heap.size + 1, 0, none⟩) 1 2) (uTx en.id).outs := hro17
      have hroV : ROuts w7 (.slice (some ⟨w1.heap.size + 1, 0, none⟩) 1 2) (vTx en.id).outs := hro17
      have F0 : Hid (∀ w8, Below w7.heap.size w7 w8 → Calls Tryd.prog 8 #[.agg #[.int .u32 3, .slice (some ⟨w.heap.size, 0, none⟩) 1 1, .slice (some ⟨w1.heap.size + 1, 0, none⟩) 2 2, .int .u32 0], .int .u64 0] w8 fun e w' => e = .returned (.int .i64 0) ∧ Below w8.heap.size w8 w') := Lib.hid fun w8 hb => by
        have := Fee_ok t (.slice (some ⟨w.heap.size, 0, none⟩) 1 1) (.slice (some ⟨w1.heap.size + 1, 0, none⟩) 2 2) 0 w8 hwf (ROuts.below hro7 hb) hsl1
        rw [HFW.out, HTX.out] at this
        exact this
      have F1 : Hid (∀ w8, Below w7.heap.size w7 w8 → Calls Tryd.prog 8 #[.agg #[.int .u32 3, .slice (some ⟨w.heap.size, 0, none⟩) 1 1, .slice (some ⟨w1.heap.size + 1, 0, none⟩) 2 2, .int .u32 0], .int .u64 1] w8 fun e w' => e = .returned (.int .i64 18) ∧ Below w8.heap.size w8 w') := Lib.hid fun w8 hb => by
        have := Fee_ok t (.slice (some ⟨w.heap.size, 0, none⟩) 1 1) (.slice (some ⟨w1.heap.size + 1, 0, none⟩) 2 2) 1 w8 hwf (ROuts.below hro7 hb) hsl1
        rw [HFW.out, HTX.out] at this
        exact this
      have F2 : Hid (∀ w8, Below w7.heap.size w7 w8 → Calls Tryd.prog 8 #[.agg (txc (uTx en.id) (.slice (some ⟨gu, 0, none⟩) 1 1) (.slice (some ⟨w1.heap.size + 1, 0, none⟩) 1 2)).toArray, .int .u64 1] w8 fun e w' => e = .returned (.int .i64 0) ∧ Below w8.heap.size w8 w') := Lib.hid fun w8 hb => by
        have := Fee_ok (uTx en.id) (.slice (some ⟨gu, 0, none⟩) 1 1) (.slice (some ⟨w1.heap.size + 1, 0, none⟩) 1 2) 1 w8 (uTx_wf _) (ROuts.below hroU hb) hsl3
        rw [fee_u] at this
        exact this
      have S1 : Hid (∀ w8, Below w7.heap.size w7 w8 → Calls Tryd.prog 7 #[.pointer (some ⟨W.heap.size + 2, 0, none⟩), .agg (txc (uTx en.id) (.slice (some ⟨gu, 0, none⟩) 1 1) (.slice (some ⟨w1.heap.size + 1, 0, none⟩) 1 2)).toArray] w8 fun e w' => e = .returned (.int .i64 26) ∧ Below w8.heap.size w8 w') := Lib.hid fun w8 hb => by
        have := Spends_of rising_ok W.heap.size w8 (W.heap.size + 2) W.heap.size (W.heap.size + 1) ov5 _ (uTx en.id) (.slice (some ⟨gu, 0, none⟩) 1 1) (.slice (some ⟨w1.heap.size + 1, 0, none⟩) 1 2) (hP7.below hb) (RIns.below hru hb) (ROuts.below hroU hb) (uTx_wf _) (by
          intro x hx
          obtain rfl : x = ⟨en.id, 0, 0⟩ := by simpa [uTx] using hx
          exact hEw.id)
        rw [HSU.out en _ hEtx] at this
        exact this
      have S2 : Hid (∀ w8, Below w7.heap.size w7 w8 → Calls Tryd.prog 7 #[.pointer (some ⟨W.heap.size + 2, 0, none⟩), .agg (txc (vTx en.id) (.slice (some ⟨gv, 0, none⟩) 2 2) (.slice (some ⟨w1.heap.size + 1, 0, none⟩) 1 2)).toArray] w8 fun e w' => e = .returned (.int .i64 0) ∧ Below w8.heap.size w8 w') := Lib.hid fun w8 hb => by
        have := Spends_of rising_ok W.heap.size w8 (W.heap.size + 2) W.heap.size (W.heap.size + 1) ov5 _ (vTx en.id) (.slice (some ⟨gv, 0, none⟩) 2 2) (.slice (some ⟨w1.heap.size + 1, 0, none⟩) 1 2) (hP7.below hb) (RIns.below hrv hb) (ROuts.below hroV hb) (vTx_wf _) (by
          intro x hx
          have : x = ⟨en.id, 0, 0⟩ ∨ x = ⟨en.id, 1, 0⟩ := by simpa [vTx] using hx
          rcases this with rfl | rfl
          · exact hEw.id
          · exact hEw.id)
        rw [HSV.out en _ hEtx] at this
        exact this
      have KT : Hid (∀ w8, Below w7.heap.size w7 w8 → w8.cell? ⟨w1.heap.size + 1 + 1, 0, none⟩ = some (.int .u32 3) ∧ w8.cell? ⟨w1.heap.size + 1 + 1, 1, none⟩ = some (.slice (some ⟨w.heap.size, 0, none⟩) 1 1) ∧ w8.cell? ⟨w1.heap.size + 1 + 1, 2, none⟩ = some (.slice (some ⟨w1.heap.size + 1, 0, none⟩) 2 2) ∧ w8.cell? ⟨w1.heap.size + 1 + 1, 3, none⟩ = some (.int .u32 0)) := Lib.hid fun w8 hb =>
        have k := ht7.below hb
        ⟨k.cell (j := 0) rfl, k.cell (j := 1) rfl, k.cell (j := 2) rfl, k.cell (j := 3) rfl⟩
      have KU : Hid (∀ w8, Below w7.heap.size w7 w8 → w8.cell? ⟨gt, 0, none⟩ = some (.int .u32 3) ∧ w8.cell? ⟨gt, 1, none⟩ = some (.slice (some ⟨gu, 0, none⟩) 1 1) ∧ w8.cell? ⟨gt, 2, none⟩ = some (.slice (some ⟨w1.heap.size + 1, 0, none⟩) 1 2) ∧ w8.cell? ⟨gt, 3, none⟩ = some (.int .u32 0)) := Lib.hid fun w8 hb =>
        have k := hu7.below hb
        ⟨k.cell (j := 0) rfl, k.cell (j := 1) rfl, k.cell (j := 2) rfl, k.cell (j := 3) rfl⟩
      have KV : Hid (∀ w8, Below w7.heap.size w7 w8 → w8.cell? ⟨gs, 0, none⟩ = some (.int .u32 3) ∧ w8.cell? ⟨gs, 1, none⟩ = some (.slice (some ⟨gv, 0, none⟩) 2 2) ∧ w8.cell? ⟨gs, 2, none⟩ = some (.slice (some ⟨w1.heap.size + 1, 0, none⟩) 1 2) ∧ w8.cell? ⟨gs, 3, none⟩ = some (.int .u32 0)) := Lib.hid fun w8 hb =>
        have k := hv7.below hb
        ⟨k.cell (j := 0) rfl, k.cell (j := 1) rfl, k.cell (j := 2) rfl, k.cell (j := 3) rfl⟩
      clear ht7 hP7 hu7 hgu7 hv7 hgv7 hro7 hro17 hru hrv hroU hroV hGL HV HL HTI HTO HSU HSV HFW HTX
      obtain ⟨k0, k1, k2, k3⟩ := KT.out w7 (Below.refl _ _)
      go_wp2_with fail
      refine (F0.out w7 (Below.refl _ _)).mono ?_
      rintro e w8 ⟨rfl, hB8⟩
      obtain ⟨l0, l1, l2, l3⟩ := KT.out w8 hB8
      go_wp2_with fail
      refine (F1.out w8 hB8).mono ?_
      rintro e w9 ⟨rfl, hb9⟩
      have hB9 := hB8.trans (hb9.mono hB8.size)
      obtain ⟨m0, m1, m2, m3⟩ := KU.out w9 hB9
      go_wp2_with fail
      refine (F2.out w9 hB9).mono ?_
      rintro e w10 ⟨rfl, hb10⟩
      have hB10 := hB9.trans (hb10.mono hB9.size)
      obtain ⟨n0, n1, n2, n3⟩ := KU.out w10 hB10
      go_wp2_with fail
      refine (S1.out w10 hB10).mono ?_
      rintro e w11 ⟨rfl, hb11⟩
      have hB11 := hB10.trans (hb11.mono hB10.size)
      obtain ⟨o0, o1, o2, o3⟩ := KV.out w11 hB11
      go_wp2_with fail
      refine (S2.out w11 hB11).mono ?_
      rintro e w12 ⟨rfl, hb12⟩
      have hB12 := hB11.trans (hb12.mono hB11.size)
      go_wp2_with fail
      go_ret
      exact ⟨rfl, hBw7.trans (hB12.mono hBw7.size)⟩
  theorem awake_ok : AwakeOk := awake_of wTx rfl rfl rfl rfl wTx_wf wEnt_wf (fun e sp h => spends_u e sp h) (fun e sp h => spends_v e sp h) fee_w
end Go.Proofs.YtdpobhcpmpfioaaDoor

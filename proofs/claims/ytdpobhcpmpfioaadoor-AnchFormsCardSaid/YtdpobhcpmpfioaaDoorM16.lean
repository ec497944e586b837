import Derived.Test.YtdpobhcpmpfioaaDoorM08
import Derived.Test.YtdpobhcpmpfioaaDoorM12
import Derived.Test.YtdpobhcpmpfioaaDoorM14
import Derived.Test.YtdpobhcpmpfioaaDoorM15
set_option linter.all false
set_option linter.unusedVariables false
set_option linter.unusedSimpArgs false
namespace Go.Proofs.YtdpobhcpmpfioaaDoor
open Go.RowKit

def entry (t : Tx) (fee since : Int) : Ent := ⟨t, txid t, txid t, fee, ((wgt t + 3) / 4 : Nat), since, dusts t⟩
def zE : List Value := [.int .u32 0, .slice none 0 0, .slice none 0 0, .int .u32 0] ++ List.replicate 64 (.int .u8 0) ++ [.int .u64 0, .int .i64 0, .int .i64 0, .slice none 0 0]
theorem zE_length : zE.length = 72 := by decide
set_option maxRecDepth 100000 in
theorem run_build_ent (e : Ent) (i u d : Value) (hi : Sl i) (hu : Sl u) (hd : Sl d) (w : World) :
    (Instr.build 42 #[(0, .agg (txc e.tx i u).toArray), (1, idv e.id), (2, idv e.wid), (3, .agg #[.int .u64 e.fee, .int .i64 e.size]), (4, .int .i64 e.since), (5, d)]).run Tryd.prog w = .ok (.agg (entc e i u d).toArray) w := by
  obtain ⟨a1, n1, c1, rfl⟩ := hi
  obtain ⟨a2, n2, c2, rfl⟩ := hu
  obtain ⟨a3, n3, c3, rfl⟩ := hd
  obtain ⟨t, ⟨l, h⟩, ⟨l2, h2⟩, fee, size, since, dust⟩ := e
  match l, h, l2, h2 with
  | [a0, a1, a2, a3, a4, a5, a6, a7, a8, a9, a10, a11, a12, a13, a14, a15, a16, a17, a18, a19, a20, a21, a22, a23, a24, a25, a26, a27, a28, a29, a30, a31], _, [b0, b1, b2, b3, b4, b5, b6, b7, b8, b9, b10, b11, b12, b13, b14, b15, b16, b17, b18, b19, b20, b21, b22, b23, b24, b25, b26, b27, b28, b29, b30, b31], _ => show _ = _; kernel_rfl
theorem run_build_rate (f s : Int) (w : World) : (Instr.build 39 #[(0, .int .u64 f), (1, .int .i64 s)]).run Tryd.prog w = .ok (.agg #[.int .u64 f, .int .i64 s]) w := by
  show _ = _
  kernel_rfl
theorem TIns.sl {w : World} {b : Nat} {v l} (h : TIns w b v l) : Sl v := RIns.sl h.ri
theorem TOuts.sl {w : World} {b : Nat} {v l} (h : TOuts w b v l) : Sl v := ROuts.sl h.ro

set_option maxHeartbeats 1000000 in
set_option maxRecDepth 100000 in
theorem Entry_ok (t : Tx) (i u : Value) (fee since : Int) (w : World) (hwf : TxWf t) (hi : RIns w i t.ins) (ho : ROuts w u t.outs) (hGL : GL w) :
    Calls Tryd.prog 5 #[.agg (txc t i u).toArray, .int .u64 fee, .int .i64 since] w fun e w' => ∃ i' u' d', e = .returned (.agg (entc (entry t fee since) i' u' d').toArray) ∧
      TIns w' w.heap.size i' t.ins ∧ TOuts w' w.heap.size u' t.outs ∧ Ts w' w.heap.size 3 1 d' (dusts t).length ((dusts t).map (Value.int .i64)) ∧ Below w.heap.size w w' := by
  have HW := Lib.hid hwf
  clear hwf
  obtain ⟨ia, ic, rfl, hi1, hi2⟩ := Rd.form' hi
  obtain ⟨ua, uc, rfl, hu1, hu2⟩ := RSl.form ho
  go_enter Tryd.func5, Tryd.ntmps5
  go_wp2_with fail
  obtain ⟨W, hW, b1, b2, hbW, hsW⟩ : ∃ W, (w.alloc (.cells (txc t (.slice ia t.ins.length ic) (.slice ua t.outs.length uc)).toArray 32)).alloc (.cells zE.toArray 42) = W ∧
      HB W w.heap.size 32 (txc t (.slice ia t.ins.length ic) (.slice ua t.outs.length uc)) ∧ HB W (w.heap.size + 1) 42 zE ∧ Below w.heap.size w W ∧ W.heap.size = w.heap.size + 2 := by
    refine ⟨_, rfl, HB.alloc (HB.new w 32 (txc t (.slice ia t.ins.length ic) (.slice ua t.outs.length uc))) _, ?_, ((Below.refl _ _).alloc (Nat.le_refl _) _).alloc (by simp) _, by simp⟩
    have := HB.new (w.alloc (.cells (txc t (.slice ia t.ins.length ic) (.slice ua t.outs.length uc)).toArray 32)) 42 zE
    simpa using this
  change Code.wp _ _ _ _ ((w.alloc (.cells (txc t (.slice ia t.ins.length ic) (.slice ua t.outs.length uc)).toArray 32)).alloc (.cells zE.toArray 42))
  rw [hW]
  clear hW
  have hri := RIns.below (RIns.below hi hbW) ((Below.refl W.heap.size W).drew)
  have hro := ROuts.below (ROuts.below ho hbW) ((Below.refl W.heap.size W).drew)
  have hgl := GL.below (GL.below hGL hbW) ((Below.refl W.heap.size W).drew)
  have hbW' := hbW.drew
  have hsW' : W.drew.heap.size = w.heap.size + 2 := hsW
  have b1' := b1.drew
  have b2' := b2.drew
  clear hi ho hGL hbW hsW b1 b2
  refine region_lex (by rfl) (fun w' => Below W.drew.heap.size W.drew w') [(0, true), (2, true), (4, true), (6, true), (7, true), (10, true), (11, true), (1, false), (3, false), (5, false), (8, false), (9, true), (12, false), (13, true)] (fun _ _ d _ _ h => by cases d <;> exact h) (by kernel_rfl) (by kernel_rfl) (Below.refl _ _) ?_
  simp only [pick, List.getElem?_cons_succ, List.getElem?_cons_zero, List.drop_succ_cons, List.drop_zero, List.length_cons, List.length_nil]
  have hr : ∀ w', Below W.drew.heap.size W.drew w' → w'.rangeAt w.heap.size 0 (txc t (.slice ia t.ins.length ic) (.slice ua t.outs.length uc)) := fun w' h => (b1'.below h).range
  generalize W.drew = W0 at *
  refine lexLoad 32 (.tmp 3) w.heap.size 0 _ _ rfl rfl rfl hr Tryd.underlying32 rfl szTx ?_
  simp only [Act.put, List.setIfInBounds_toArray, List.set_cons_zero, List.set_cons_succ]
  refine lexLoad 32 (.tmp 3) w.heap.size 0 _ _ rfl rfl rfl hr Tryd.underlying32 rfl szTx ?_
  simp only [Act.put, List.setIfInBounds_toArray, List.set_cons_zero, List.set_cons_succ]
  refine lexLoad 32 (.tmp 3) w.heap.size 0 _ _ rfl rfl rfl hr Tryd.underlying32 rfl szTx ?_
  simp only [Act.put, List.setIfInBounds_toArray, List.set_cons_zero, List.set_cons_succ]
  refine lexMove (.tmp 1) (.int .u64 fee) rfl rfl rfl ?_
  simp only [Act.put, List.setIfInBounds_toArray, List.set_cons_zero, List.set_cons_succ]
  refine lexLoad 32 (.tmp 3) w.heap.size 0 _ _ rfl rfl rfl hr Tryd.underlying32 rfl szTx ?_
  simp only [Act.put, List.setIfInBounds_toArray, List.set_cons_zero, List.set_cons_succ]
  refine lexMove (.tmp 2) (.int .i64 since) rfl rfl rfl ?_
  simp only [Act.put, List.setIfInBounds_toArray, List.set_cons_zero, List.set_cons_succ]
  refine lexLoad 32 (.tmp 3) w.heap.size 0 _ _ rfl rfl rfl hr Tryd.underlying32 rfl szTx ?_
  simp only [Act.put, List.setIfInBounds_toArray, List.set_cons_zero, List.set_cons_succ]
  refine lexOp rfl (wp_call 10 _ _ rfl [.agg (txc t (.slice ia t.ins.length ic) (.slice ua t.outs.length uc)).toArray] rfl (fun _ _ => rfl) ((Still_ok t _ _ _ HW.out hri hro).mono ?_))
  rintro e w1 ⟨i', u', rfl, hI, hU, hb1⟩
  refine ⟨_, rfl, hb1, ?_⟩
  simp only [Act.put, List.setIfInBounds_toArray, List.set_cons_zero, List.set_cons_succ]
  refine lexOp rfl (wp_call 11 _ _ rfl [.agg (txc t (.slice ia t.ins.length ic) (.slice ua t.outs.length uc)).toArray] rfl (fun _ _ => rfl) ((Txid_ok t _ _ w1 HW.out (RIns.below hri hb1) (ROuts.below hro hb1) (hgl.below hb1)).mono ?_))
  rintro e w2 ⟨rfl, hb2⟩
  have hB2 := hb1.trans (hb2.mono hb1.size)
  refine ⟨_, rfl, hB2, ?_⟩
  simp only [Act.put, List.setIfInBounds_toArray, List.set_cons_zero, List.set_cons_succ]
  refine lexOp rfl (wp_call 12 _ _ rfl [.agg (txc t (.slice ia t.ins.length ic) (.slice ua t.outs.length uc)).toArray] rfl (fun _ _ => rfl) ((Wtxid_ok t _ _ w2 HW.out (RIns.below hri hB2) (ROuts.below hro hB2) (hgl.below hB2)).mono ?_))
  rintro e w3 ⟨rfl, hb3⟩
  have hB3 := hB2.trans (hb3.mono hB2.size)
  refine ⟨_, rfl, hB3, ?_⟩
  simp only [Act.put, List.setIfInBounds_toArray, List.set_cons_zero, List.set_cons_succ]
  refine lexOp rfl (wp_call 13 _ _ rfl [.agg (txc t (.slice ia t.ins.length ic) (.slice ua t.outs.length uc)).toArray] rfl (fun _ _ => rfl) ((Size_ok t _ _ w3 HW.out (RIns.below hri hB3) (ROuts.below hro hB3)).mono ?_))
  rintro e w4 ⟨rfl, hb4⟩
  have hB4 := hB3.trans (hb4.mono hB3.size)
  refine ⟨_, rfl, hB4, ?_⟩
  simp only [Act.put, List.setIfInBounds_toArray, List.set_cons_zero, List.set_cons_succ]
  refine lexBuild 39 _ [(0, .int .u64 fee), (1, .int .i64 ((wgt t + 3) / 4 : Nat))] _ rfl rfl rfl (run_build_rate _ _) ?_
  simp only [Act.put, List.setIfInBounds_toArray, List.set_cons_zero, List.set_cons_succ]
  refine lexOp rfl (wp_call 14 _ _ rfl [.agg (txc t (.slice ia t.ins.length ic) (.slice ua t.outs.length uc)).toArray] rfl (fun _ _ => rfl) ((Dusts_ok t _ _ w4 HW.out (ROuts.below hro hB4)).mono ?_))
  rintro e w5 ⟨d', rfl, hD, hb5⟩
  have hB5 := hB4.trans (hb5.mono hB4.size)
  refine ⟨_, rfl, hB5, ?_⟩
  simp only [Act.put, List.setIfInBounds_toArray, List.set_cons_zero, List.set_cons_succ]
  have hD' := Ts.own hD
  refine lexBuild 42 _ [(0, .agg (txc (entry t fee since).tx i' u').toArray), (1, idv (entry t fee since).id), (2, idv (entry t fee since).wid), (3, .agg #[.int .u64 (entry t fee since).fee, .int .i64 (entry t fee since).size]), (4, .int .i64 (entry t fee since).since), (5, d')] _ rfl rfl rfl
    (run_build_ent (entry t fee since) i' u' d' hI.sl hU.sl hD'.rd.sl) ?_
  simp only [Act.put, List.setIfInBounds_toArray, List.set_cons_zero, List.set_cons_succ]
  simp only [wpLex]
  have g2 := b2'.belowB hB5 (by omega)
  have h1T := all_oneCell_toArray (entc_one (entry t fee since) hI.sl hU.sl hD'.rd.sl)
  have hle := entc_length (entry t fee since) i' u' d'
  go_wp2_with (first
    | (with_reducible refine wpList_atS 6 ?_; refine wpList_store_row rfl 42 (.tmp 6) (.tmp 20) rfl _ (entc (entry t fee since) i' u' d').toArray rfl rfl _ _ g2.hp (by rw [List.size_toArray, hle]; exact szEnt) (by rw [List.size_toArray, List.size_toArray, hle]; exact zE_length) h1T ?_)
    | fail)
  try simp only [Exit.inBlock, Exit.then]
  refine bodyPost_ret (results_cell_row rfl _ _ (w.heap.size + 1) _ _ (0, 0) _ rfl (g2.setRow (entc (entry t fee since) i' u' d')) Tryd.underlying42 rfl (by rw [List.size_toArray, hle]; exact szEnt)) rfl ?_
  have hs5 := hB5.size
  have s1 := hb1.size
  have s2 := hB2.size
  have s3 := hB3.size
  have s4 := hB4.size
  have hK : KeepT W0.heap.size w5 (w5.setRow (w.heap.size + 1) (entc (entry t fee since) i' u' d').toArray) := fun g cur T hg _ _ => setRow_other _ _ _ _ (by omega)
  have hb15 : Below w1.heap.size w1 w5 := ((hb2.trans (hb3.mono (by have := hb2.size; omega))).trans (hb4.mono (by have := hb2.size; have := hb3.size; omega))).trans (hb5.mono (by have := hb2.size; have := hb3.size; have := hb4.size; omega))
  refine ⟨_, _, _, rfl, ?_, ?_, ?_, ?_⟩
  · exact (hK.ts (Ts.below hI hb15) (.inl rfl)).mono (by omega)
  · exact ((hU.below hb15).kept hK).mono (by omega)
  · exact (hK.ts (hD'.mono (by omega)) (.inr (.inr (.inr rfl)))).mono (by omega)
  · exact hbW'.trans (Below.setRow (hB5.mono (by omega)) (by omega) _)
end Go.Proofs.YtdpobhcpmpfioaaDoor

namespace Go.Proofs.YtdpobhcpmpfioaaDoor
open Go.RowKit

theorem entc_tx (e : Ent) (i u d i' u' : Value) : (entc e i u d).take 0 ++ txc e.tx i' u' ++ (entc e i u d).drop (0 + (txc e.tx i' u').length) = entc e i' u' d := by
  simp [entc, txc]
theorem entc_dust (e : Ent) (i u d d' : Value) : (entc e i u d).take 71 ++ [d'] ++ (entc e i u d).drop (71 + [d'].length) = entc e i u d' := by
  have key : ∀ x : Value, entc e i u x = (txc e.tx i u ++ idc e.id ++ idc e.wid ++ [.int .u64 e.fee, .int .i64 e.size, .int .i64 e.since]) ++ [x] := fun x => by simp [entc]
  have hX : (txc e.tx i u ++ idc e.id ++ idc e.wid ++ [Value.int .u64 e.fee, .int .i64 e.size, .int .i64 e.since]).length = 71 := by simp
  rw [key d, key d', List.take_left' hX, List.drop_eq_nil_of_le (by rw [List.length_append, hX]; simp), List.append_nil]
theorem entc_tx_get (e : Ent) (i u d : Value) : ∀ j v, (txc e.tx i u)[j]? = some v → (entc e i u d)[0 + j]? = some v := by
  intro j v h
  unfold entc
  rw [List.append_assoc, List.append_assoc]
  exact pre_get j v h
theorem entc_dust_get (e : Ent) (i u d : Value) : (entc e i u d)[71]? = some d := by
  simp [entc, txc, List.getElem?_append]
theorem entc_id_get (e : Ent) (i u d : Value) : ∀ j v, (idc e.id)[j]? = some v → (entc e i u d)[4 + j]? = some v := by
  intro j v h
  unfold entc
  rw [List.append_assoc]
  exact mid_get rfl j v h
theorem wpList_store_sub {P : Program} {ops : Array Oper} {rest : List Oper} {Q : Exit → Act → World → Prop} {o : Oper} {a : Act} {w : World} (hg : o.guard = none) (ty : TypeId) (x y : Operand) (ho : o.op = .store ty x y) (g off : Nat) (T : TypeId) (cs vs : List Value) (v : Value)
    (hx : a.eval x = .pointer (some ⟨g, off, none⟩)) (hy : a.eval y = v) (hv : v.cells = vs.toArray) (hb : HB w g T cs) (hi : (P.info? ty).map (·.size) = some vs.length) (hl : off + vs.length ≤ cs.length) (h1 : ∀ v ∈ vs, v.oneCell' = true)
    (h : wpList P ops Q rest (a.put o.dst undef) (w.setRow g (cs.take off ++ vs ++ cs.drop (off + vs.length)).toArray)) : wpList P ops Q (o :: rest) a w :=
  wpList_plain hg fun _ hK => wp_store_sub ty x y ho g off T cs vs v hx hy hv hb hi hl h1 (hK _ _ h)
/-- an entry's cells, of the marked blocks -/
structure TEnt (w : World) (base : Nat) (e : Ent) (i u d : Value) : Prop where
  i : TIns w base i e.tx.ins
  u : TOuts w base u e.tx.outs
  d : Ts w base 3 1 d e.dust.length (e.dust.map (Value.int .i64))
theorem TEnt.kept {w w' : World} {base : Nat} {e : Ent} {i u d : Value} (h : TEnt w base e i u d) (hk : KeepT base w w') : TEnt w' base e i u d := ⟨hk.ts h.i (.inl rfl), h.u.kept hk, hk.ts h.d (.inr (.inr (.inr rfl)))⟩
theorem TEnt.below {w w' : World} {base : Nat} {e : Ent} {i u d : Value} (h : TEnt w base e i u d) (hb : Below w.heap.size w w') : TEnt w' base e i u d := h.kept (.of_below hb)
theorem TEnt.mono {w : World} {base b' : Nat} {e : Ent} {i u d : Value} (h : TEnt w base e i u d) (hb : b' ≤ base) : TEnt w b' e i u d := ⟨Ts.mono h.i hb, h.u.mono hb, h.d.mono hb⟩
theorem TEnt.one {w : World} {base : Nat} {e : Ent} {i u d : Value} (h : TEnt w base e i u d) : ∀ v ∈ entc e i u d, v.oneCell' = true := entc_one e h.i.sl h.u.sl h.d.rd.sl
structure EntWf (e : Ent) : Prop where
  t : TxWf e.tx
  d : e.dust.length ≤ 1000
  id : IdOk e.id
  iv : ∀ x ∈ e.tx.ins, IdOk x.prev

set_option maxHeartbeats 2000000 in
set_option maxRecDepth 100000 in
theorem still_ok (e : Ent) (i u d : Value) (w : World) (hwf : TxWf e.tx) (hdl : e.dust.length ≤ 1000) (hi : RIns w i e.tx.ins) (ho : ROuts w u e.tx.outs) (hd : Rd w 3 1 d e.dust.length (e.dust.map (Value.int .i64))) :
    Calls Tryd.prog 32 #[.agg (entc e i u d).toArray] w fun r w' => ∃ i' u' d', r = .returned (.agg (entc e i' u' d').toArray) ∧ TEnt w' w.heap.size e i' u' d' ∧ Below w.heap.size w w' := by
  have HW := Lib.hid hwf
  clear hwf
  have hle := entc_length e
  go_enter Tryd.func32, Tryd.ntmps32
  go_wp2_with fail
  obtain ⟨W, hW, b1, b2, hbW, hsW⟩ : ∃ W, (w.alloc (.cells (entc e i u d).toArray 42)).alloc (.cells zE.toArray 42) = W ∧
      HB W w.heap.size 42 (entc e i u d) ∧ HB W (w.heap.size + 1) 42 zE ∧ Below w.heap.size w W ∧ W.heap.size = w.heap.size + 2 := by
    refine ⟨_, rfl, HB.alloc (HB.new w 42 (entc e i u d)) _, ?_, ((Below.refl _ _).alloc (Nat.le_refl _) _).alloc (by simp) _, by simp⟩
    have := HB.new (w.alloc (.cells (entc e i u d).toArray 42)) 42 zE
    simpa using this
  change Code.wp _ _ _ _ ((w.alloc (.cells (entc e i u d).toArray 42)).alloc (.cells zE.toArray 42))
  rw [hW]
  clear hW
  have hri := RIns.below (RIns.below hi hbW) ((Below.refl W.heap.size W).drew)
  have hro := ROuts.below (ROuts.below ho hbW) ((Below.refl W.heap.size W).drew)
  have hrd := Rd.below (Rd.below hd hbW) ((Below.refl W.heap.size W).drew)
  have hbW' := hbW.drew
  have hsW' : W.drew.heap.size = w.heap.size + 2 := hsW
  have b1' := b1.drew
  have b2' := b2.drew
  have hsi := RIns.sl hi
  have hsu := ROuts.sl ho
  have hsd := hd.sl
  clear hi ho hd hbW hsW b1 b2
  refine region_lex (by rfl) (fun w' => Below W.drew.heap.size W.drew w') [(0, true), (1, true), (3, true), (4, true), (2, false), (6, true), (5, false)] (fun _ _ d _ _ h => by cases d <;> exact h) (by kernel_rfl) (by kernel_rfl) (Below.refl _ _) ?_
  simp only [pick, List.getElem?_cons_succ, List.getElem?_cons_zero, List.drop_succ_cons, List.drop_zero, List.length_cons, List.length_nil]
  have hr : ∀ w', Below W.drew.heap.size W.drew w' → w'.rangeAt w.heap.size 0 (txc e.tx i u) := fun w' h => (b1'.below h).sub (entc_tx_get e i u d)
  have hc : ∀ w', Below W.drew.heap.size W.drew w' → w'.cell? ⟨w.heap.size, 71, none⟩ = some d := fun w' h => (b1'.below h).cell (entc_dust_get e i u d)
  generalize W.drew = W0 at *
  refine lexField 42 (.tmp 1) 0 w.heap.size 0 0 rfl rfl rfl (faEnt0 _ _) ?_
  simp only [Act.put, List.setIfInBounds_toArray, List.set_cons_zero, List.set_cons_succ]
  refine lexLoad 32 (.tmp 3) w.heap.size 0 _ _ rfl rfl rfl hr Tryd.underlying32 rfl szTx ?_
  simp only [Act.put, List.setIfInBounds_toArray, List.set_cons_zero, List.set_cons_succ]
  refine lexField 42 (.tmp 1) 5 w.heap.size 0 71 rfl rfl rfl (faEnt5 _ _) ?_
  simp only [Act.put, List.setIfInBounds_toArray, List.set_cons_zero, List.set_cons_succ]
  refine lexLoad1 40 (.tmp 6) w.heap.size 71 _ _ rfl rfl rfl hc Tryd.underlying40 rfl ?_
  simp only [Act.put, List.setIfInBounds_toArray, List.set_cons_zero, List.set_cons_succ]
  refine lexOp rfl (wp_call 10 _ _ rfl [.agg (txc e.tx i u).toArray] rfl (fun _ _ => rfl) ((Still_ok e.tx _ _ _ HW.out hri hro).mono ?_))
  rintro r w1 ⟨i', u', rfl, hI, hU, hb1⟩
  refine ⟨_, rfl, hb1, ?_⟩
  simp only [Act.put, List.setIfInBounds_toArray, List.set_cons_zero, List.set_cons_succ]
  refine lexField 42 (.tmp 1) 0 w.heap.size 0 0 rfl rfl rfl (faEnt0 _ _) ?_
  simp only [Act.put, List.setIfInBounds_toArray, List.set_cons_zero, List.set_cons_succ]
  have h1d : ∀ v ∈ e.dust.map (Value.int .i64), v.oneCell' = true := by
    intro v hv
    obtain ⟨n, _, rfl⟩ := List.mem_map.1 hv
    rfl
  refine lexOp rfl (wp_call 44 _ _ rfl [d] rfl (fun _ _ => rfl) ((CloneI d e.dust.length _ w1 (Rd.below hrd hb1) h1d (by omega)).mono ?_))
  rintro r w2 ⟨d', rfl, hD, hb2⟩
  have hB2 := hb1.trans (hb2.mono hb1.size)
  refine ⟨_, rfl, hB2, ?_⟩
  simp only [Act.put, List.setIfInBounds_toArray, List.set_cons_zero, List.set_cons_succ]
  simp only [wpLex]
  have hD' := Ts.own hD
  have g1 := b1'.below hB2
  have g2 := b2'.belowB hB2 (by omega)
  have hs1 := hb1.size
  have hs2 := hB2.size
  have h1t := txc_one e.tx hI.sl hU.sl
  have hl0 := hle i u d
  have hl1 := hle i' u' d
  have hl2 := hle i' u' d'
  have g3 := g1.setRow ((entc e i u d).take 0 ++ txc e.tx i' u' ++ (entc e i u d).drop (0 + (txc e.tx i' u').length))
  rw [entc_tx] at g3
  have g4 := g3.setRow ((entc e i' u' d).take 71 ++ [d'] ++ (entc e i' u' d).drop (71 + [d'].length))
  rw [entc_dust] at g4
  have hcd : d'.cells = [d'].toArray := by obtain ⟨a, n, c, rfl⟩ := hD'.rd.sl; rfl
  have g5 := (g2.setRowOther w.heap.size (entc e i' u' d).toArray (by omega)).setRowOther w.heap.size (entc e i' u' d').toArray (by omega)
  have h1E := entc_one e hI.sl hU.sl hD'.rd.sl
  go_wp2_with (first
    | (with_reducible refine wpList_atS 9 ?_; go_loud (refine wpList_store_sub rfl 32 (.tmp 9) (.tmp 5) rfl w.heap.size 0 _ _ (txc e.tx i' u') (.agg (txc e.tx i' u').toArray) rfl rfl rfl g1 (by rw [txc_length]; exact szTx) (by rw [hl0, txc_length]; decide) h1t ?_); rw [entc_tx])
    | (with_reducible refine wpList_atS 10 ?_; go_loud (refine wpList_store_sub rfl 40 (.tmp 10) (.tmp 8) rfl w.heap.size 71 _ _ [d'] d' rfl rfl hcd g3 (by kernel_rfl) (by rw [hl1]; simp) (by intro v hv; obtain rfl := List.mem_singleton.1 hv; exact hD'.rd.sl.one) ?_); rw [entc_dust])
    | (with_reducible refine wpList_at 11 ?_; go_loud (refine ldEnt (.tmp 1) _ _ e i' u' d' rfl rfl rfl g4.range ?_))
    | (with_reducible refine wpList_atS 2 ?_; go_loud (refine wpList_store_row rfl 42 (.tmp 2) (.tmp 11) rfl _ (entc e i' u' d').toArray rfl rfl _ _ g5.hp (by rw [List.size_toArray, hl2]; exact szEnt) (by rw [List.size_toArray, List.size_toArray, hl2]; exact zE_length) (all_oneCell_toArray h1E) ?_))
    | fail)
  try simp only [Exit.inBlock, Exit.then]
  refine bodyPost_ret (results_cell_row rfl _ _ (w.heap.size + 1) _ _ (0, 0) _ rfl (g5.setRow (entc e i' u' d')) Tryd.underlying42 rfl (by rw [List.size_toArray, hl2]; exact szEnt)) rfl ?_
  have hK : KeepT W0.heap.size w2 (((w2.setRow w.heap.size (entc e i' u' d).toArray).setRow w.heap.size (entc e i' u' d').toArray).setRow (w.heap.size + 1) (entc e i' u' d').toArray) := fun g cur T hg _ _ =>
    (setRow_other _ _ _ _ (by omega)).trans ((setRow_other _ _ _ _ (by omega)).trans (setRow_other _ _ _ _ (by omega)))
  have hT : TEnt w2 W0.heap.size e i' u' d' := ⟨Ts.below hI hb2, hU.below hb2, hD'.mono hs1⟩
  exact ⟨_, _, _, rfl, (hT.kept hK).mono (by omega), hbW'.trans (Below.setRow (Below.setRow (Below.setRow (hB2.mono (by omega)) (by omega) _) (by omega) _) (by omega) _)⟩
end Go.Proofs.YtdpobhcpmpfioaaDoor

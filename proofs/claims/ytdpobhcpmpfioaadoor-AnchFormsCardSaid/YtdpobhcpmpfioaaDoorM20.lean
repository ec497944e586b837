import Derived.Test.YtdpobhcpmpfioaaDoorM06
import Derived.Test.YtdpobhcpmpfioaaDoorM15
set_option linter.all false
set_option linter.unusedVariables false
set_option linter.unusedSimpArgs false
/-! IDs and points compared; a point looked for. -/
namespace Go.Proofs.YtdpobhcpmpfioaaDoor
open Go.RowKit

theorem ktID : Tryd.prog.keyTypeAt 2 24 = true := by kernel_rfl
theorem ktPt : Tryd.prog.keyTypeAt 3 61 = true := by kernel_rfl
set_option maxRecDepth 100000 in
theorem eqID (x y : ID) (hx : IdOk x) (hy : IdOk y) (w : World) : (Op.equal 24 (.agg (idc x).toArray) (.agg (idc y).toArray)).run Tryd.prog w = .ok (decide (x = y)) w := by
  obtain ⟨lx, h1⟩ := keyID hx
  obtain ⟨ly, h2⟩ := keyID hy
  obtain ⟨r, hr, hi⟩ := run_equal_deep w (m := 2) (by omega) (k := 24) ktID wideID h1 h2
  have : r = decide (x = y) := by
    apply Bool.eq_iff_iff.2
    rw [hi, decide_eq_true_iff]
    constructor
    · intro e
      rw [← e] at h2
      exact idv_inj (keyedID.inj h1 h2)
    · rintro rfl
      exact Option.some.inj (h1.symm.trans h2)
  rw [← this]
  exact hr
set_option maxRecDepth 100000 in
theorem eqPt (x y : Pt) (hx : IdOk x.id) (hx' : 0 ≤ x.vout ∧ x.vout < 4294967296) (hy : IdOk y.id) (hy' : 0 ≤ y.vout ∧ y.vout < 4294967296) (w : World) :
    (Op.equal 61 (.agg (ptc x).toArray) (.agg (ptc y).toArray)).run Tryd.prog w = .ok (decide (x = y)) w := by
  obtain ⟨lx, h1⟩ := keyPt hx hx'
  obtain ⟨ly, h2⟩ := keyPt hy hy'
  obtain ⟨r, hr, hi⟩ := run_equal_deep w (m := 3) (by omega) (k := 61) ktPt widePt h1 h2
  have : r = decide (x = y) := by
    apply Bool.eq_iff_iff.2
    rw [hi, decide_eq_true_iff]
    constructor
    · intro e
      rw [← e] at h2
      exact ptv_inj (keyedPt.inj h1 h2)
    · rintro rfl
      exact Option.some.inj (h1.symm.trans h2)
  rw [← this]
  exact hr
theorem egID : Tryd.prog.eqGuardType Tryd.prog.depth 24 = false := by kernel_rfl
theorem egPt : Tryd.prog.eqGuardType Tryd.prog.depth 61 = false := by kernel_rfl
theorem run_eqAgg {T : TypeId} {xs ys : Array Value} {r : Bool} {w : World} (x y : Operand) (hg : Tryd.prog.eqGuardType Tryd.prog.depth T = false) (h : (Op.equal T (.agg xs) (.agg ys)).run Tryd.prog w = .ok r w) :
    (do eqGuard .eql T x y (.agg xs) (.agg ys); binOp .eql T (.agg xs) (.agg ys) : Sem Value).run Tryd.prog w = .ok (.bool r) w := by
  have hp : Sem.run Tryd.prog (Sem.program Sem.pure) w = .ok Tryd.prog w := rfl
  simp [eqGuard, hg, binOp, h, Result.andThen, program, hp]
theorem run_neqAgg {T : TypeId} {xs ys : Array Value} {r : Bool} {w : World} (x y : Operand) (hg : Tryd.prog.eqGuardType Tryd.prog.depth T = false) (h : (Op.equal T (.agg xs) (.agg ys)).run Tryd.prog w = .ok r w) :
    (do eqGuard .neq T x y (.agg xs) (.agg ys); binOp .neq T (.agg xs) (.agg ys) : Sem Value).run Tryd.prog w = .ok (.bool !r) w := by
  have hp : Sem.run Tryd.prog (Sem.program Sem.pure) w = .ok Tryd.prog w := rfl
  simp [eqGuard, hg, binOp, h, Result.andThen, program, hp]
theorem lexBin {ops : Array Oper} {Q : Exit → Act → World → Prop} {S : World → Prop} {K : Act → World → Prop} {fs : List (Bool × Oper)} {o : Oper} {a : Act} {w : World} (op : BinOp) (t t2 : TypeId) (x y : Operand) (vx vy v : Value) (hg : o.guard = none) (ho : o.op = .binOp op t x y t2)
    (hx : a.eval x = vx) (hy : a.eval y = vy) (hS : ∀ w, (do eqGuard op t x y vx vy; binOp op t vx vy : Sem Value).run Tryd.prog w = .ok v w) (h : wpLex Tryd.prog ops Q S K fs (a.put o.dst v) w) : wpLex Tryd.prog ops Q S K ((true, o) :: fs) a w :=
  lexY v hg (fun w hw => by unfold execOp; simp only [ho, hx, hy]; have := hS w; simp only [Sem.run_bind] at this ⊢; rw [this]; rfl) h
end Go.Proofs.YtdpobhcpmpfioaaDoor

namespace Go.Proofs.YtdpobhcpmpfioaaDoor
open Go.RowKit

theorem lexIndex {P : Program} {ops : Array Oper} {Q : Exit → Act → World → Prop} {S : World → Prop} {K : Act → World → Prop} {fs : List (Bool × Oper)} {o : Oper} {a : Act} {w : World} (t e : TypeId) (x ix : Operand) (b off n c i k : Nat) (hg : o.guard = none) (ho : o.op = .indexAddr t x ix)
    (hx : a.eval x = .slice (some ⟨b, off, none⟩) n c) (hix : a.eval ix = .int .i64 i) (hu : P.underlying t = some (.slice e)) (hk : (P.info? e).map (·.size) = some k) (hi : i < n)
    (h : wpLex P ops Q S K fs (a.put o.dst (.pointer (some ⟨b, off + i * k, none⟩))) w) : wpLex P ops Q S K ((true, o) :: fs) a w :=
  lexY _ hg (fun w hw => by
    cases hq : P.info? e with
    | none => simp [hq] at hk
    | some inf =>
      have hs : inf.size = k := by simpa [hq] using hk
      unfold execOp
      simp only [ho, hx, hix]
      have h0 : (0 : Int) ≤ (i : Int) ∧ (i : Int) < (n : Int) := by omega
      simp [Instr.indexAt, asIntOf, run_underlying hu, sizeOf, typeInfo, hq, hs, h0, Addr.add_mid, Result.andThen, hi]) h
def PtOk (q : Pt) : Prop := IdOk q.id ∧ (0 ≤ q.vout ∧ q.vout < 4294967296)
set_option maxHeartbeats 2000000 in
set_option maxRecDepth 100000 in
theorem IndexPt_ok (v : Value) (l : List Pt) (q : Pt) (w : World) (h : Rd w 61 33 v l.length (l.flatMap ptc)) (hl : l.length ≤ 1000000) (hall : ∀ x ∈ l, PtOk x) (hq : PtOk q) :
    Calls Tryd.prog 34 #[v, .agg (ptc q).toArray] w fun e w' => e = .returned (.int .i64 (idxPt (fun x => decide (q = x)) l)) ∧ Below w.heap.size w w' := by
  obtain ⟨a, c, rfl, h1, h2⟩ := h.form'
  have HL := Lib.hid hall
  have HQ := Lib.hid hq
  clear hall hq
  go_enter Tryd.func34, Tryd.ntmps34
  go_wp2_with fail
  have hbW : Below w.heap.size w (w.alloc (.cells (ptc q).toArray 61)) := (Below.refl _ _).alloc (Nat.le_refl _) _
  have b1 := HB.new w 61 (ptc q)
  have hsW : (w.alloc (.cells (ptc q).toArray 61)).heap.size = w.heap.size + 1 := by simp
  have hW := Rd.below h hbW
  clear h
  generalize w.alloc (.cells (ptc q).toArray 61) = W at *
  go_loopw [8] (fun j wr => ∃ i : Nat, i ≤ l.length ∧ j = .int .i64 i ∧ Hid ((l.take i).any (fun x => decide (q = x)) = false) ∧ Below W.heap.size W wr)
    (fun j _ => l.length - (intOf j).toNat)
  case atStart => exact ⟨0, Nat.zero_le _, rfl, by show (l.take 0).any _ = false; simp, Below.refl _ _⟩
  case round =>
    obtain ⟨i, hi, rfl, hno, hbel⟩ := hrel
    by_cases hlt : i < l.length
    · obtain ⟨b, off, c', he, _, _, hb, hat⟩ := Rd.at_ hW ptc_length (by omega)
      obtain ⟨rfl, rfl⟩ : a = some ⟨b, off, none⟩ ∧ c = c' := by simpa using he
      have hrW := hat i _ (List.getElem?_eq_getElem hlt)
      have hr := range_belowB hrW hbel hb
      have hxo := HL.out _ (List.getElem_mem hlt)
      have hcons : l.take (i + 1) = l.take i ++ [l[i]] := List.take_succ_eq_append_getElem hlt
      have hany : (l.take (i + 1)).any (fun x => decide (q = x)) = decide (q = l[i]) := by rw [hcons, List.any_append, hno.out]; simp
      have hfind : decide (q = l[i]) = true → idxPt (fun x => decide (q = x)) l = i := fun hx => by
        have ha : l.any (fun x => decide (q = x)) = true := List.any_eq_true.2 ⟨_, List.getElem_mem hlt, hx⟩
        have hf : l.findIdx (fun x => decide (q = x)) = i := by
          refine (List.findIdx_eq hlt).2 ⟨hx, fun j hj => ?_⟩
          have := List.any_eq_false.1 hno.out l[j] (List.mem_take_iff_getElem.2 ⟨j, by omega, rfl⟩)
          simpa using this
        simp [idxPt, ha, hf]
      have HA := Lib.hid hany
      have HF := Lib.hid hfind
      have HX := Lib.hid hxo
      clear hcons hany hfind hno hat hxo
      generalize l[i] = x at *
      have heq := eqPt q x HQ.out.1 HQ.out.2 HX.out.1 HX.out.2
      generalize decide (q = x) = r at *
      have hq1 := b1.belowB hbel (by omega)
      go_wp2_with fail
      have e0 : (i : Int) < l.length := by omega
      refine region_lex (by rfl) (fun w' => Below W.heap.size W w') [(0, true), (1, true), (2, true), (3, true), (4, true), (5, true)] (fun _ _ d _ _ h => by cases d <;> exact h) (by kernel_rfl) (by kernel_rfl) hbel.drew ?_
      simp only [pick, List.getElem?_cons_succ, List.getElem?_cons_zero, List.drop_succ_cons, List.drop_zero, List.length_cons, List.length_nil, List.drop_nil]
      have k1 : ∀ w', Below W.heap.size W w' → w'.rangeAt w.heap.size 0 (ptc q) := fun w' h => (b1.belowB h (by omega)).range
      refine lexLoad 61 (.tmp 3) w.heap.size 0 (ptc q) _ rfl rfl rfl k1 Tryd.underlying61 rfl (by rw [ptc_length]; exact szPt) ?_
      simp only [Act.put, List.setIfInBounds_toArray, List.set_cons_zero, List.set_cons_succ]
      refine lexMove (.tmp 0) (.slice (some ⟨b, off, none⟩) l.length c) rfl rfl rfl ?_
      simp only [Act.put, List.setIfInBounds_toArray, List.set_cons_zero, List.set_cons_succ]
      refine lexMove (.tmp 5) (.int .i64 i) rfl rfl rfl ?_
      simp only [Act.put, List.setIfInBounds_toArray, List.set_cons_zero, List.set_cons_succ]
      refine lexIndex 58 61 (.tmp 12) (.tmp 13) b off l.length c i 33 rfl rfl rfl rfl Tryd.underlying58 (by kernel_rfl) hlt ?_
      simp only [Act.put, List.setIfInBounds_toArray, List.set_cons_zero, List.set_cons_succ]
      have k2 : ∀ w', Below W.heap.size W w' → w'.rangeAt b (off + i * 33) (ptc x) := fun w' h => range_belowB hrW h hb
      refine lexLoad 61 (.tmp 14) b (off + i * 33) (ptc x) _ rfl rfl rfl k2 Tryd.underlying61 rfl (by rw [ptc_length]; exact szPt) ?_
      simp only [Act.put, List.setIfInBounds_toArray, List.set_cons_zero, List.set_cons_succ]
      refine lexBin .eql 61 _ (.tmp 11) (.tmp 15) _ _ (.bool r) rfl rfl rfl rfl (fun w => run_eqAgg _ _ egPt (heq w)) ?_
      simp only [Act.put, List.setIfInBounds_toArray, List.set_cons_zero, List.set_cons_succ]
      simp only [wpLex, wpList]
      have hbd := hbel.drew
      have hsz := hbel.size
      cases r with
      | true =>
        have hF := Lib.hid (HF.out rfl)
        clear HF HA
        go_wp2_with fail
        go_ret
        exact ⟨by rw [hF.out]; rfl, hbW.trans (hbd.mono (by omega))⟩
      | false =>
        clear HF
        go_wp2_with fail
        go_roundw
        case rel => exact ⟨i + 1, by omega, by go_num, HA, hbd⟩
        case measure => simp [intOf]; omega
    · obtain rfl : i = l.length := by omega
      have hz : idxPt (fun x => decide (q = x)) l = -1 := by
        have := hno.out
        rw [List.take_length] at this
        simp [idxPt, this]
      have HZ := Lib.hid hz
      clear hz hno
      go_wp2_with fail
      go_ret
      exact ⟨by rw [HZ.out]; rfl, hbW.trans (hbel.mono (by omega))⟩

theorem idxPt_ge (p : Pt → Bool) (l : List Pt) : decide ((0 : Int) ≤ idxPt p l) = l.any p := by
  unfold idxPt
  cases h : l.any p <;> simp
set_option maxRecDepth 100000 in
theorem ContainsPt_ok (v : Value) (l : List Pt) (q : Pt) (w : World) (h : Rd w 61 33 v l.length (l.flatMap ptc)) (hl : l.length ≤ 1000000) (hall : ∀ x ∈ l, PtOk x) (hq : PtOk q) :
    Calls Tryd.prog 21 #[v, .agg (ptc q).toArray] w fun e w' => e = .returned (.bool (decide (q ∈ l))) ∧ Below w.heap.size w w' := by
  obtain ⟨a, c, rfl, h1, h2⟩ := h.form'
  have hc : l.any (fun x => decide (q = x)) = decide (q ∈ l) := by
    apply Bool.eq_iff_iff.2
    simp
  have hge := idxPt_ge (fun x => decide (q = x)) l
  rw [hc] at hge
  have HGE := Lib.hid hge
  clear hge hc
  have hbW : Below w.heap.size w (w.alloc (.cells (ptc q).toArray 61)) := (Below.refl _ _).alloc (Nat.le_refl _) _
  have b1 := HB.new w 61 (ptc q)
  have hW := Rd.below h hbW
  have r1 := b1.range
  have hi := IndexPt_ok (.slice a l.length c) l q _ hW hl hall hq
  have HI := Lib.hid hi
  clear h hall hq hi hW
  generalize idxPt (fun x => decide (q = x)) l = z at *
  go_enter Tryd.func21, Tryd.ntmps21
  go_wp2_with (first
    | (with_reducible refine wpList_at 6 ?_; go_loud (refine ldPt (.tmp 3) _ _ q rfl rfl rfl r1 ?_))
    | fail)
  refine HI.out.mono ?_
  rintro e w1 ⟨rfl, hb1⟩
  go_wp2_with fail
  go_ret
  exact ⟨by rw [← HGE.out]; simp, hbW.trans (hb1.mono (by simp))⟩
end Go.Proofs.YtdpobhcpmpfioaaDoor

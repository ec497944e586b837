import Derived.Test.YtdpobhcpmpfioaaDoorM16
import Derived.Carry
set_option linter.all false
set_option linter.unusedVariables false
set_option linter.unusedSimpArgs false
/-! What waits: the pool's memory. -/
namespace Go.Proofs.YtdpobhcpmpfioaaDoor
open Go.RowKit

structure Pool where
  ents : List Ent
  sp : Pt → Option ID
def Pool.find (P : Pool) (x : ID) : Option Ent := P.ents.find? (fun e => decide (e.id = x))
/-- the pool P lies in block p, its maps in m1 and m2, its order is the slice ov -/
structure PR (base : Nat) (w : World) (p m1 m2 : Nat) (ov : Value) (P : Pool) : Prop where
  hb : HB w p 53 [ov, .map (some m1), .map (some m2)]
  ord : w.ownsRow base 24 32 ov P.ents.length (P.ents.flatMap fun e => idc e.id)
  l : ∃ f, Mp 24 w m1 P.ents.length f ∧ (∀ e ∈ P.ents, ∃ i u d, f (idv e.id) = some (.agg (entc e i u d).toArray) ∧ TEnt w base e i u d) ∧ (∀ x : ID, (∀ e ∈ P.ents, e.id ≠ x) → f (idv x) = none)
  s : ∃ f, Mp 61 w m2 (100 * P.ents.length) f ∧ ∀ q : Pt, f (ptv q) = (P.sp q).map idv
  n12 : m1 ≠ m2
  bp : base ≤ p
  b1 : base ≤ m1
  b2 : base ≤ m2
  nd : (P.ents.map (·.id)).Nodup
  wf : ∀ e ∈ P.ents, EntWf e
  few : P.ents.length ≤ 1000000
theorem PR.below {base : Nat} {w w' : World} {p m1 m2 : Nat} {ov : Value} {P : Pool} (h : PR base w p m1 m2 ov P) (hb : Below w.heap.size w w') : PR base w' p m1 m2 ov P := by
  obtain ⟨f, h1, h2, h3⟩ := h.l
  obtain ⟨f', h4, h5⟩ := h.s
  exact ⟨h.hb.below hb, own_below h.ord hb, ⟨f, h1.below hb, fun e he => by obtain ⟨i, u, d, e1, e2⟩ := h2 e he; exact ⟨i, u, d, e1, e2.below hb⟩, h3⟩, ⟨f', h4.below hb, h5⟩, h.n12, h.bp, h.b1, h.b2, h.nd, h.wf, h.few⟩
theorem PR.mono {base b' : Nat} {w : World} {p m1 m2 : Nat} {ov : Value} {P : Pool} (h : PR base w p m1 m2 ov P) (hb : b' ≤ base) : PR b' w p m1 m2 ov P := by
  obtain ⟨f, h1, h2, h3⟩ := h.l
  exact ⟨h.hb, own_mono h.ord hb, ⟨f, h1, fun e he => by obtain ⟨i, u, d, e1, e2⟩ := h2 e he; exact ⟨i, u, d, e1, e2.mono hb⟩, h3⟩, h.s, h.n12, Nat.le_trans hb h.bp, Nat.le_trans hb h.b1, Nat.le_trans hb h.b2, h.nd, h.wf, h.few⟩
def zId : Value := .agg (List.replicate 32 (.int .u8 0)).toArray
theorem zvEnt (w : World) : (zeroValue 42).run Tryd.prog w = .ok (.agg zE.toArray) w := by
  show _ = _
  kernel_rfl
theorem zvId (w : World) : (zeroValue 24).run Tryd.prog w = .ok zId w := by
  show _ = _
  kernel_rfl
theorem zE_one : ∀ v ∈ zE, v.oneCell' = true := by
  intro v hv
  simp only [zE, List.mem_append, List.mem_replicate] at hv
  rcases hv with (h | ⟨_, rfl⟩) | h
  · simp at h; rcases h with rfl | rfl | rfl | rfl <;> rfl
  · rfl
  · simp at h; rcases h with rfl | rfl | rfl | rfl <;> rfl
theorem find_spec (P : Pool) (x : ID) : (∃ e ∈ P.ents, e.id = x ∧ P.find x = some e) ∨ ((∀ e ∈ P.ents, e.id ≠ x) ∧ P.find x = none) := by
  unfold Pool.find
  cases h : P.ents.find? (fun e => decide (e.id = x)) with
  | none =>
    refine .inr ⟨fun e he => ?_, rfl⟩
    have := List.find?_eq_none.1 h e he
    simpa using this
  | some e => exact .inl ⟨e, List.mem_of_find?_eq_some h, by have := List.find?_some h; simpa using this, rfl⟩
/-- what a look-up by a name gives, in whatever later world -/
theorem PR.look {base : Nat} {w : World} {p m1 m2 : Nat} {ov : Value} {P : Pool} (h : PR base w p m1 m2 ov P) (x : ID) (hx : IdOk x) :
    ∃ (b : Bool) (c : List Value), c.length = 72 ∧ (∀ v ∈ c, v.oneCell' = true) ∧ (∀ w', Below w.heap.size w w' → (Instr.lookup 49 (.map (some m1)) (idv x) true).run Tryd.prog w' = .ok (.tuple #[.agg c.toArray, .bool b]) w') ∧
      b = (P.find x).isSome ∧ (∀ e, P.find x = some e → ∃ i u d, c = entc e i u d ∧ ∀ w', Below w.heap.size w w' → TEnt w' base e i u d) ∧ (P.find x = none → c = zE) := by
  obtain ⟨f, h1, h2, h3⟩ := h.l
  obtain ⟨l, hl⟩ := keyID hx
  have hlk : ∀ w', Below w.heap.size w w' → (Instr.lookup 49 (.map (some m1)) (idv x) true).run Tryd.prog w' = .ok (.tuple #[(f (idv x)).getD (.agg zE.toArray), .bool (f (idv x)).isSome]) w' :=
    fun w' hb => (h1.below hb).look keyedID Tryd.underlying49 (zvEnt w') hl
  rcases find_spec P x with ⟨e, he, rfl, hf⟩ | ⟨hne, hf⟩
  · obtain ⟨i, u, d, e1, e2⟩ := h2 e he
    refine ⟨true, entc e i u d, entc_length _ _ _ _, e2.one, fun w' hb => ?_, by rw [hf]; rfl, fun e' he' => ?_, fun h => by rw [hf] at h; cases h⟩
    · rw [hlk w' hb, e1]; rfl
    · rw [hf] at he'; cases he'
      exact ⟨i, u, d, rfl, fun w' hb => e2.below hb⟩
  · refine ⟨false, zE, zE_length, zE_one, fun w' hb => ?_, by rw [hf]; rfl, (fun e' he' => by rw [hf] at he'; cases he'), fun _ => rfl⟩
    rw [hlk w' hb, h3 x hne]; rfl

set_option maxRecDepth 100000 in
theorem New_ok (w : World) : Calls Tryd.prog 4 #[] w fun e w' => e = .returned (.pointer (some ⟨w.heap.size + 2, 0, none⟩)) ∧
    PR w.heap.size w' (w.heap.size + 2) w.heap.size (w.heap.size + 1) (.slice none 0 0) ⟨[], fun _ => none⟩ ∧ Below w.heap.size w w' := by
  have hmm := @run_makeMap Tryd.prog
  go_enter Tryd.func4, Tryd.ntmps4
  go_wp2_with fail
  go_ret
  refine ⟨rfl, ⟨?_, World.ownsRow_nil _ _ _ _, ⟨fun _ => none, ?_, by simp, fun _ _ => rfl⟩, ⟨fun _ => none, ?_, fun _ => rfl⟩, by omega, by omega, by omega, by omega, by simp, by simp, by simp⟩, ?_⟩
  · have := HB.new ((w.alloc (.map #[] 0)).alloc (.map #[] 0)) 53 [.slice none 0 0, .map (some w.heap.size), .map (some (w.heap.size + 1))]
    simpa using this
  · exact ((Mp.made 24 w).below ((Below.refl _ _).alloc (Nat.le_refl _) _)).below ((Below.refl _ _).alloc (Nat.le_refl _) _)
  · have := (Mp.made 61 (w.alloc (.map #[] 0)))
    have hs : (w.alloc (.map #[] 0)).heap.size = w.heap.size + 1 := by simp
    rw [hs] at this
    exact this.below ((Below.refl _ _).alloc (by simp) _)
  · exact (((Below.refl _ _).alloc (Nat.le_refl _) _).alloc (by simp) _).alloc (by simp; omega) _
end Go.Proofs.YtdpobhcpmpfioaaDoor

namespace Go.Proofs.YtdpobhcpmpfioaaDoor
open Go.RowKit

theorem results_pair {P : Program} {fn : Func} {p q : Tmp} {ty : TypeId} (h : fn.results = #[.cell p ty, .tmp q]) (tmps : Array Value) (w : World) (g : Nat) (t : TypeId) (cs : Array Value) (fr : Nat × Nat) (d : TypeDesc) (b : Value)
    (hp : tmps.getD p undef = .pointer (some ⟨g, 0, none⟩)) (hq : tmps.getD q undef = b) (hg : w.heap[g]? = some (.cells cs t fr))
    (hu : P.underlying ty = some d) (hd : (match d with | .struct _ | .array _ _ => true | _ => false) = true) (hi : (P.info? ty).map (·.size) = some cs.size) :
    (results fn tmps).run P w = .ok (.tuple #[.agg cs, b]) w := by
  have hp' : tmps[p]?.getD undef = .pointer (some ⟨g, 0, none⟩) := by simpa using hp
  have hq' : tmps[q]?.getD undef = b := by simpa using hq
  simp [results, h, hp', hq', asAddr, run_loadVar_row w g t ty cs fr d hg hu hd hi]
theorem infoEnt : (Tryd.prog.info? 42).map (fun i => (i.zero, i.size)) = some (some (.agg zE.toArray), 72) := by kernel_rfl

set_option maxHeartbeats 2000000 in
set_option maxRecDepth 100000 in
theorem Ref_ok (base : Nat) (w : World) (p m1 m2 : Nat) (ov : Value) (P : Pool) (x : ID) (h : PR base w p m1 m2 ov P) (hx : IdOk x) :
    Calls Tryd.prog 20 #[.pointer (some ⟨p, 0, none⟩), idv x] w fun e w' => ∃ (b : Bool) (c : List Value), e = .returned (.tuple #[.agg c.toArray, .bool b]) ∧ Below w.heap.size w w' ∧ c.length = 72 ∧ (∀ v ∈ c, v.oneCell' = true) ∧
      b = (P.find x).isSome ∧ (∀ e, P.find x = some e → ∃ i u d, c = entc e i u d ∧ TEnt w' base e i u d) ∧ (P.find x = none → c = zE) := by
  obtain ⟨b, c, hc, h1c, hlk, hb, hse, hno⟩ := h.look x hx
  have hpb := h.hb
  have HE := Lib.hid hse
  have HN := Lib.hid hno
  have HBQ := Lib.hid hb
  clear hse hno h hb
  go_enter Tryd.func20, Tryd.ntmps20
  unfold idv
  go_wp2_with fail
  obtain ⟨W, hW, b1, b2, hbW, hsW⟩ : ∃ W, (w.alloc (.cells (idc x).toArray 24)).alloc (.cells zE.toArray 42) = W ∧
      HB W w.heap.size 24 (idc x) ∧ HB W (w.heap.size + 1) 42 zE ∧ Below w.heap.size w W ∧ W.heap.size = w.heap.size + 2 := by
    refine ⟨_, rfl, HB.alloc (HB.new w 24 (idc x)) _, ?_, ((Below.refl _ _).alloc (Nat.le_refl _) _).alloc (by simp) _, by simp⟩
    have := HB.new (w.alloc (.cells (idc x).toArray 24)) 42 zE
    simpa using this
  change Code.wp _ _ _ _ ((w.alloc (.cells (idc x).toArray 24)).alloc (.cells zE.toArray 42))
  rw [hW]
  clear hW
  have hbW' := hbW.drew
  have hsW' : W.drew.heap.size = w.heap.size + 2 := hsW
  have b1' := b1.drew
  have b2' := b2.drew
  have hp' := (hpb.below hbW).drew
  clear hbW hsW b1 b2
  refine region_lex (by rfl) (fun w' => Below W.drew.heap.size W.drew w') [(0, true), (1, true), (2, true), (3, true), (4, true), (5, true), (6, true), (7, true), (8, true), (9, false), (10, false), (11, true)] (fun _ _ d _ _ h => by cases d <;> exact h) (by kernel_rfl) (by kernel_rfl) (Below.refl _ _) ?_
  simp only [pick, List.getElem?_cons_succ, List.getElem?_cons_zero, List.drop_succ_cons, List.drop_zero, List.length_cons, List.length_nil, List.drop_nil]
  have hr : ∀ w', Below W.drew.heap.size W.drew w' → w'.rangeAt w.heap.size 0 (idc x) := fun w' h => (b1'.below h).range
  have hm : ∀ w', Below W.drew.heap.size W.drew w' → w'.cell? ⟨p, 1, none⟩ = some (.map (some m1)) := fun w' h => (hp'.below h).cell rfl
  have hl : ∀ w', Below W.drew.heap.size W.drew w' → (Instr.lookup 49 (.map (some m1)) (.agg (idc x).toArray) true).run Tryd.prog w' = .ok (.tuple #[.agg c.toArray, .bool b]) w' := fun w' h => hlk w' (hbW'.trans (h.mono (by omega)))
  generalize W.drew = W0 at *
  refine lexMove (.tmp 0) _ rfl rfl rfl ?_
  simp only [Act.put, List.setIfInBounds_toArray, List.set_cons_zero, List.set_cons_succ]
  refine lexNil (.tmp 9) ⟨p, 0, none⟩ rfl rfl rfl ?_
  simp only [Act.put, List.setIfInBounds_toArray, List.set_cons_zero, List.set_cons_succ]
  refine lexField 53 (.tmp 10) 1 p 0 1 rfl rfl rfl (faPool1 _ _) ?_
  simp only [Act.put, List.setIfInBounds_toArray, List.set_cons_zero, List.set_cons_succ]
  refine lexLoad1 49 (.tmp 11) p 1 _ _ rfl rfl rfl hm Tryd.underlying49 rfl ?_
  simp only [Act.put, List.setIfInBounds_toArray, List.set_cons_zero, List.set_cons_succ]
  refine lexLoad 24 (.tmp 3) w.heap.size 0 _ _ rfl rfl rfl hr Tryd.underlying24 rfl (by rw [idc_length]; exact szID) ?_
  simp only [Act.put, List.setIfInBounds_toArray, List.set_cons_zero, List.set_cons_succ]
  refine lexLookup 49 (.tmp 12) (.tmp 13) _ _ _ rfl rfl rfl rfl hl ?_
  simp only [Act.put, List.setIfInBounds_toArray, List.set_cons_zero, List.set_cons_succ]
  refine lexMove (.tmp 14) _ rfl rfl rfl ?_
  simp only [Act.put, List.setIfInBounds_toArray, List.set_cons_zero, List.set_cons_succ]
  refine lexExtract (.tmp 8) 0 _ (.agg c.toArray) rfl rfl rfl rfl ?_
  simp only [Act.put, List.setIfInBounds_toArray, List.set_cons_zero, List.set_cons_succ]
  refine lexExtract (.tmp 8) 1 _ (.bool b) rfl rfl rfl rfl ?_
  simp only [Act.put, List.setIfInBounds_toArray, List.set_cons_zero, List.set_cons_succ]
  have hn := HB.new W0 42 zE
  refine lexOp rfl (wp_alloc 42 rfl 72 (.agg zE.toArray) infoEnt ?_)
  refine ⟨(Below.refl _ _).alloc (Nat.le_refl _) _, ?_⟩
  simp only [Act.put, List.setIfInBounds_toArray, List.set_cons_zero, List.set_cons_succ]
  refine lexOp rfl (wp_store_row 42 (.tmp 6) (.tmp 15) rfl W0.heap.size c.toArray rfl rfl _ _ hn.hp (by rw [List.size_toArray, hc]; exact szEnt) (by rw [List.size_toArray, List.size_toArray, hc]; exact zE_length) (all_oneCell_toArray h1c) ?_)
  refine ⟨Below.setRow ((Below.refl _ _).alloc (Nat.le_refl _) _) (Nat.le_refl _) _, ?_⟩
  simp only [Act.put, List.setIfInBounds_toArray, List.set_cons_zero, List.set_cons_succ]
  refine lexAssign (.tmp 16) (.bool b) rfl rfl rfl ?_
  simp only [Act.put, List.setIfInBounds_toArray, List.set_cons_zero, List.set_cons_succ]
  simp only [wpLex, wpList]
  have hn2 := hn.setRow c
  have hB : Below W0.heap.size W0 ((W0.alloc (.cells zE.toArray 42)).setRow W0.heap.size c.toArray) := Below.setRow ((Below.refl _ _).alloc (Nat.le_refl _) _) (Nat.le_refl _) _
  change Exit.then _ _ _ _ ((W0.alloc (.cells zE.toArray 42)).setRow W0.heap.size c.toArray)
  generalize (W0.alloc (.cells zE.toArray 42)).setRow W0.heap.size c.toArray = W1 at *
  have g2 := b2'.belowB hB (by omega)
  go_wp2_with (first
    | (with_reducible refine wpList_at 17 ?_; go_loud (refine wpList_load_row rfl 42 (.tmp 6) rfl W0.heap.size rfl _ _ _ _ hn2.hp Tryd.underlying42 rfl (by rw [List.size_toArray, hc]; exact szEnt) ?_))
    | (with_reducible refine wpList_atS 4 ?_; go_loud (refine wpList_store_row rfl 42 (.tmp 4) (.tmp 17) rfl _ c.toArray rfl rfl _ _ g2.hp (by rw [List.size_toArray, hc]; exact szEnt) (by rw [List.size_toArray, List.size_toArray, hc]; exact zE_length) (all_oneCell_toArray h1c) ?_))
    | fail)
  try simp only [Exit.inBlock, Exit.then]
  refine bodyPost_ret (results_pair rfl _ _ (w.heap.size + 1) _ _ (0, 0) _ (.bool b) rfl rfl (g2.setRow c) Tryd.underlying42 rfl (by rw [List.size_toArray, hc]; exact szEnt)) rfl ?_
  have hbF : Below w.heap.size w (W1.setRow (w.heap.size + 1) c.toArray) := Below.setRow (hbW'.trans (hB.mono (by omega))) (by omega) _
  refine ⟨b, c, rfl, hbF, hc, h1c, HBQ.out, fun e he => ?_, HN.out⟩
  obtain ⟨i, u, d, e1, e2⟩ := HE.out e he
  exact ⟨i, u, d, e1, e2 _ hbF⟩
end Go.Proofs.YtdpobhcpmpfioaaDoor

namespace Go.Proofs.YtdpobhcpmpfioaaDoor
open Go.RowKit

def zI : List Value := List.replicate 32 (.int .u8 0)
theorem zI_length : zI.length = 32 := by simp [zI]
theorem infoID2 : (Tryd.prog.info? 24).map (fun i => (i.zero, i.size)) = some (some (.agg zI.toArray), 32) := by kernel_rfl
/-- who spends a point, in whatever later world -/
theorem PR.who {base : Nat} {w : World} {p m1 m2 : Nat} {ov : Value} {P : Pool} (h : PR base w p m1 m2 ov P) (q : Pt) (hx : IdOk q.id) (hv : 0 ≤ q.vout ∧ q.vout < 4294967296) :
    ∃ (c : List Value), c.length = 32 ∧ (∀ v ∈ c, v.oneCell' = true) ∧ (∀ w', Below w.heap.size w w' → (Instr.lookup 50 (.map (some m2)) (ptv q) true).run Tryd.prog w' = .ok (.tuple #[.agg c.toArray, .bool (P.sp q).isSome]) w') ∧
      (∀ y, P.sp q = some y → c = idc y) := by
  obtain ⟨f, h1, h2⟩ := h.s
  obtain ⟨l, hl⟩ := keyPt hx hv
  have hlk : ∀ w', Below w.heap.size w w' → (Instr.lookup 50 (.map (some m2)) (ptv q) true).run Tryd.prog w' = .ok (.tuple #[(f (ptv q)).getD zId, .bool (f (ptv q)).isSome]) w' :=
    fun w' hb => (h1.below hb).look keyedPt Tryd.underlying50 (zvId w') hl
  cases hs : P.sp q with
  | none =>
    refine ⟨zI, zI_length, ?_, fun w' hb => ?_, nofun⟩
    · intro v hv; rw [(List.mem_replicate.1 hv).2]; rfl
    · rw [hlk w' hb, h2 q, hs]; rfl
  | some y =>
    refine ⟨idc y, idc_length y, idc_one y, fun w' hb => ?_, fun y' h => by cases h; rfl⟩
    rw [hlk w' hb, h2 q, hs]; rfl

set_option maxHeartbeats 2000000 in
set_option maxRecDepth 100000 in
theorem Add1_ok (base : Nat) (w : World) (p m1 m2 bp : Nat) (ov : Value) (P : Pool) (q : Pt) (h : PR base w p m1 m2 ov P) (hx : IdOk q.id) (hv : 0 ≤ q.vout ∧ q.vout < 4294967296) (hbx : w.cell? ⟨bp, 0, none⟩ = some (.pointer (some ⟨p, 0, none⟩))) :
    Calls Tryd.prog 16 (#[.agg (ptc q).toArray] ++ #[.pointer (some ⟨bp, 0, none⟩)]) w fun e w' => e = .returned (.bool (P.sp q).isSome) ∧ Below w.heap.size w w' := by
  obtain ⟨c, hc, h1c, hlk, _⟩ := h.who q hx hv
  have hpb := h.hb
  generalize hbq : (P.sp q).isSome = b at *
  clear h hbq
  have hbl := World.block_lt_of_cell? _ _ hbx
  go_enter Tryd.func16, Tryd.ntmps16
  go_wp2_with fail
  have hbW : Below w.heap.size w (w.alloc (.cells (ptc q).toArray 61)) := (Below.refl _ _).alloc (Nat.le_refl _) _
  have b1 := HB.new w 61 (ptc q)
  have hsW : (w.alloc (.cells (ptc q).toArray 61)).heap.size = w.heap.size + 1 := by simp
  generalize w.alloc (.cells (ptc q).toArray 61) = W at *
  have hbW' := hbW.drew
  have hsW' : W.drew.heap.size = w.heap.size + 1 := hsW
  have b1' := b1.drew
  have hp' := (hpb.below hbW).drew
  have hbx' := Below.cellv hbW' hbx hbl
  clear hbW hsW b1
  refine region_lex (by rfl) (fun w' => Below W.drew.heap.size W.drew w') [(0, true), (1, true), (2, true), (3, true), (4, true), (5, true), (6, true), (7, true), (8, true), (9, false), (10, false), (11, true)] (fun _ _ d _ _ h => by cases d <;> exact h) (by kernel_rfl) (by kernel_rfl) (Below.refl _ _) ?_
  simp only [pick, List.getElem?_cons_succ, List.getElem?_cons_zero, List.drop_succ_cons, List.drop_zero, List.length_cons, List.length_nil, List.drop_nil]
  have hr : ∀ w', Below W.drew.heap.size W.drew w' → w'.rangeAt w.heap.size 0 (ptc q) := fun w' h => (b1'.below h).range
  have hx0 : ∀ w', Below W.drew.heap.size W.drew w' → w'.cell? ⟨bp, 0, none⟩ = some (.pointer (some ⟨p, 0, none⟩)) := fun w' h => Below.cellv h hbx' (by show bp < _; have : bp < w.heap.size := hbl; omega)
  have hm : ∀ w', Below W.drew.heap.size W.drew w' → w'.cell? ⟨p, 2, none⟩ = some (.map (some m2)) := fun w' h => (hp'.below h).cell rfl
  have hl : ∀ w', Below W.drew.heap.size W.drew w' → (Instr.lookup 50 (.map (some m2)) (.agg (ptc q).toArray) true).run Tryd.prog w' = .ok (.tuple #[.agg c.toArray, .bool b]) w' := fun w' h => hlk w' (hbW'.trans (h.mono (by omega)))
  generalize W.drew = W0 at *
  refine lexLoad1 36 (.tmp 1) bp 0 _ _ rfl rfl rfl hx0 Tryd.underlying36 rfl ?_
  simp only [Act.put, List.setIfInBounds_toArray, List.set_cons_zero, List.set_cons_succ]
  refine lexNil (.tmp 7) ⟨p, 0, none⟩ rfl rfl rfl ?_
  simp only [Act.put, List.setIfInBounds_toArray, List.set_cons_zero, List.set_cons_succ]
  refine lexField 53 (.tmp 8) 2 p 0 2 rfl rfl rfl (faPool2 _ _) ?_
  simp only [Act.put, List.setIfInBounds_toArray, List.set_cons_zero, List.set_cons_succ]
  refine lexLoad1 50 (.tmp 9) p 2 _ _ rfl rfl rfl hm Tryd.underlying50 rfl ?_
  simp only [Act.put, List.setIfInBounds_toArray, List.set_cons_zero, List.set_cons_succ]
  refine lexLoad 61 (.tmp 2) w.heap.size 0 _ _ rfl rfl rfl hr Tryd.underlying61 rfl (by rw [ptc_length]; exact szPt) ?_
  simp only [Act.put, List.setIfInBounds_toArray, List.set_cons_zero, List.set_cons_succ]
  refine lexLookup 50 (.tmp 10) (.tmp 11) _ _ _ rfl rfl rfl rfl hl ?_
  simp only [Act.put, List.setIfInBounds_toArray, List.set_cons_zero, List.set_cons_succ]
  refine lexMove (.tmp 12) _ rfl rfl rfl ?_
  simp only [Act.put, List.setIfInBounds_toArray, List.set_cons_zero, List.set_cons_succ]
  refine lexExtract (.tmp 6) 0 _ (.agg c.toArray) rfl rfl rfl rfl ?_
  simp only [Act.put, List.setIfInBounds_toArray, List.set_cons_zero, List.set_cons_succ]
  refine lexExtract (.tmp 6) 1 _ (.bool b) rfl rfl rfl rfl ?_
  simp only [Act.put, List.setIfInBounds_toArray, List.set_cons_zero, List.set_cons_succ]
  have hn := HB.new W0 24 zI
  refine lexOp rfl (wp_alloc 24 rfl 32 (.agg zI.toArray) infoID2 ?_)
  refine ⟨(Below.refl _ _).alloc (Nat.le_refl _) _, ?_⟩
  simp only [Act.put, List.setIfInBounds_toArray, List.set_cons_zero, List.set_cons_succ]
  refine lexOp rfl (wp_store_row 24 (.tmp 4) (.tmp 13) rfl W0.heap.size c.toArray rfl rfl _ _ hn.hp (by rw [List.size_toArray, hc]; exact szID) (by rw [List.size_toArray, List.size_toArray, hc]; exact zI_length) (all_oneCell_toArray h1c) ?_)
  refine ⟨Below.setRow ((Below.refl _ _).alloc (Nat.le_refl _) _) (Nat.le_refl _) _, ?_⟩
  simp only [Act.put, List.setIfInBounds_toArray, List.set_cons_zero, List.set_cons_succ]
  refine lexAssign (.tmp 14) (.bool b) rfl rfl rfl ?_
  simp only [Act.put, List.setIfInBounds_toArray, List.set_cons_zero, List.set_cons_succ]
  simp only [wpLex, wpList]
  have hB : Below W0.heap.size W0 ((W0.alloc (.cells zI.toArray 24)).setRow W0.heap.size c.toArray) := Below.setRow ((Below.refl _ _).alloc (Nat.le_refl _) _) (Nat.le_refl _) _
  change Exit.then _ _ _ _ ((W0.alloc (.cells zI.toArray 24)).setRow W0.heap.size c.toArray)
  generalize (W0.alloc (.cells zI.toArray 24)).setRow W0.heap.size c.toArray = W1 at *
  go_wp2_with fail
  go_ret
  exact ⟨rfl, hbW'.trans (hB.mono (by omega))⟩
end Go.Proofs.YtdpobhcpmpfioaaDoor

namespace Go.Proofs.YtdpobhcpmpfioaaDoor
open Go.RowKit

theorem wp_slice1 {P : Program} {Q : Exit → Act → World → Prop} {o : Oper} {a : Act} {w : World} {K : Act → World → Prop} (t e : TypeId) (x : Operand) (ho : o.op = .buildSlice t 1 #[(0, x)]) (z : Value) (size bytes : Nat) (ht : P.underlying t = some (.slice e))
    (hinfo : (P.info? e).map (fun i => (i.zero, i.size, i.bytes)) = some (some z, size, bytes)) (hsz : 0 < size) (hsm : size ≤ 1000) (hzs : z.cells.size = size) (new : List Value) (hx : (a.eval x).cells = new.toArray) (hl : new.length = size)
    (h : K (a.put o.dst (.slice (some ⟨w.heap.size, 0, none⟩) 1 1)) (w.alloc (.cells new.toArray e))) : o.wp P a w K Q := by
  obtain ⟨i, hi, hz, hsize, hbytes⟩ := info_parts hinfo
  refine wp_buildSlice t e 1 #[(0, x)] ho new.toArray i z ht hi hz (by rw [hsize]; omega) (by rw [hsize]; omega) ?_ h
  simp only [List.map_toArray, List.map_cons, List.map_nil, Instr.fill, hsize, Nat.one_mul, Nat.zero_mul, Nat.zero_add]
  have hsz2 : (a.eval x).cells.size = size := by rw [hx]; simpa using hl
  simp only [hsz2, ne_eq, not_true_eq_false, Array.size_map, Array.size_range, gt_iff_lt, Nat.lt_irrefl, decide_false, Bool.false_or, Bool.false_eq_true, if_false]
  rw [hx, fold_whole new _ (by simp [hl])]
/-- all blocks but x are as they were -/
def Oth (x : Option Nat) (w w' : World) : Prop := w.heap.size ≤ w'.heap.size ∧ ∀ k, k < w.heap.size → x ≠ some k → w'.heap[k]? = w.heap[k]?
theorem Oth.of_below {x : Option Nat} {w w' : World} (h : Below w.heap.size w w') : Oth x w w' := ⟨h.size, fun k hk _ => h.block k hk⟩
theorem Oth.trans {x : Option Nat} {a b c : World} (h : Oth x a b) (h' : Oth x b c) : Oth x a c := ⟨Nat.le_trans h.1 h'.1, fun k hk hx => (h'.2 k (Nat.lt_of_lt_of_le hk h.1) hx).trans (h.2 k hk hx)⟩
theorem Oth.of_grown {x : Option Nat} {w w' : World} (h : w.grownBy w' x) : Oth x w w' := ⟨h.size, fun k hk hx => h.block k hk (fun e => hx e.symm)⟩
theorem HB.ne_mp {w : World} {b m n : Nat} {T : TypeId} {cs : List Value} {k : TypeId} {f} (h : HB w b T cs) (h' : Mp k w m n f) : b ≠ m := by
  rintro rfl
  obtain ⟨es, c, hb, _⟩ := h'
  rw [h.hp] at hb
  cases hb
theorem own_ne_mp {w : World} {base m n n' size : Nat} {T : TypeId} {v : Value} {xs : List Value} {k : TypeId} {f} (h : w.ownsRow base T size v n' xs) (h' : Mp k w m n f) : v.ownBlock ≠ some m := by
  obtain ⟨_, ⟨rfl, _⟩ | ⟨g, cap, cur, rfl, _, hg, _⟩⟩ := h
  · simp [Value.ownBlock]
  · intro e
    have : g = m := by simpa [Value.ownBlock] using e
    subst this
    obtain ⟨es, c, hb, _⟩ := h'
    rw [hg] at hb
    cases hb
theorem own_ne_hb {w : World} {base b n' size : Nat} {T T' : TypeId} {v : Value} {xs cs : List Value} (h : w.ownsRow base T size v n' xs) (h' : HB w b T' cs) (hT : T ≠ T') : v.ownBlock ≠ some b := by
  obtain ⟨_, ⟨rfl, _⟩ | ⟨g, cap, cur, rfl, _, hg, _⟩⟩ := h
  · simp [Value.ownBlock]
  · intro e
    have : g = b := by simpa [Value.ownBlock] using e
    subst this
    rw [h'.hp] at hg
    simp at hg
    exact hT hg.2.symm
theorem HB.oth {w w' : World} {b : Nat} {T : TypeId} {cs : List Value} {x : Option Nat} (h : HB w b T cs) (ho : Oth x w w') (hx : x ≠ some b) : HB w' b T cs := h.of_heap (ho.2 b h.lt hx)
theorem Mp.oth {w w' : World} {k : TypeId} {b n : Nat} {f} {x : Option Nat} (h : Mp k w b n f) (ho : Oth x w w') (hx : x ≠ some b) : Mp k w' b n f := h.of_heap (ho.2 b h.lt hx)
theorem own_oth {w w' : World} {base : Nat} {e : TypeId} {size n : Nat} {v : Value} {xs : List Value} {x : Option Nat} (h : w.ownsRow base e size v n xs) (ho : Oth x w w') (hx : ∀ g, v.ownBlock = some g → x ≠ some g) : w'.ownsRow base e size v n xs :=
  own_kept h fun g hg => ho.2 g (h.lt g hg).2 (hx g hg)
theorem KeepT.trans {base : Nat} {a b c : World} (h : KeepT base a b) (h' : KeepT base b c) : KeepT base a c := fun g cur T hg hgc hm => (h' g cur T hg ((h g cur T hg hgc hm).trans hgc) hm).trans (h g cur T hg hgc hm)
theorem KeepT.oth {base : Nat} {w w' : World} {x : Option Nat} (h : Oth x w w') (hx : ∀ g cur T, w.heap[g]? = some (.cells cur T (0, 0)) → mark T → x ≠ some g) : KeepT base w w' := fun g cur T _ hgc hm => h.2 g (Array.getElem?_eq_some_iff.1 hgc).1 (hx g cur T hgc hm)
theorem mp_mark {w : World} {k : TypeId} {m n : Nat} {f} (h : Mp k w m n f) : ∀ (g : Nat) (cur : Array Value) (T : TypeId), w.heap[g]? = some (.cells cur T (0, 0)) → mark T → some m ≠ some g := by
  intro g cur T hgc _ e
  obtain rfl : m = g := by simpa using e
  obtain ⟨es, c, hb, _⟩ := h
  rw [hgc] at hb
  cases hb
theorem hb_mark {w : World} {b : Nat} {T' : TypeId} {cs : List Value} (h : HB w b T' cs) (hT : ¬ mark T') : ∀ (g : Nat) (cur : Array Value) (T : TypeId), w.heap[g]? = some (.cells cur T (0, 0)) → mark T → some b ≠ some g := by
  intro g cur T hgc hm e
  obtain rfl : b = g := by simpa using e
  rw [h.hp] at hgc
  simp at hgc
  rw [← hgc.2] at hm
  exact hT hm
theorem own_mark {w : World} {base size n : Nat} {T' : TypeId} {v : Value} {xs : List Value} (h : w.ownsRow base T' size v n xs) (hT : ¬ mark T') : ∀ (g : Nat) (cur : Array Value) (T : TypeId), w.heap[g]? = some (.cells cur T (0, 0)) → mark T → v.ownBlock ≠ some g := by
  intro g cur T hgc hm e
  obtain ⟨_, ⟨rfl, _⟩ | ⟨g', cap, cur', rfl, _, hg, _⟩⟩ := h
  · simp [Value.ownBlock] at e
  · have : g' = g := by simpa [Value.ownBlock] using e
    subst this
    rw [hgc] at hg
    simp at hg
    rw [hg.2] at hm
    exact hT hm
theorem Grew.oth {base : Nat} {v : Value} {w w' : World} (h : Grew base v w w') : Oth v.ownBlock w w' := by
  obtain ⟨row, hg, hr⟩ := h
  exact ⟨hg.size, fun k hk hx => hg.block k hk fun e => hx (hr k e.symm).2⟩
theorem Oth.setRow (w : World) (g : Nat) (c : Array Value) : Oth (some g) w (w.setRow g c) := ⟨by simp [World.setRow], fun k _ hx => setRow_other w g k c (fun e => hx (by rw [e]))⟩
theorem nm_pool : ¬ mark 53 := by unfold mark; decide
theorem nm_id : ¬ mark 24 := by unfold mark; decide
end Go.Proofs.YtdpobhcpmpfioaaDoor

namespace Go.Proofs.YtdpobhcpmpfioaaDoor
open Go.RowKit

def Pool.add (P : Pool) (e : Ent) : Pool := ⟨P.ents ++ [e], fun q => if q ∈ points e.tx then some e.id else P.sp q⟩
/-- the memory of the pool while the spenders are written -/
structure FI (base : Nat) (w wr : World) (p m1 m2 b0 : Nat) (ov ov' : Value) (P : Pool) (e : Ent) (i u d : Value) (pv : Value) (k : Nat) : Prop where
  hp : HB wr p 53 [ov', .map (some m1), .map (some m2)]
  he : HB wr b0 42 (entc e i u d)
  ord : wr.ownsRow base 24 32 ov' (P.ents.length + 1) ((P.ents ++ [e]).flatMap fun e => idc e.id)
  l : ∃ f, Mp 24 wr m1 (P.ents.length + 1) f ∧ (∀ e' ∈ P.ents ++ [e], ∃ i u d, f (idv e'.id) = some (.agg (entc e' i u d).toArray) ∧ TEnt wr base e' i u d) ∧ (∀ x : ID, (∀ e' ∈ P.ents ++ [e], e'.id ≠ x) → f (idv x) = none)
  s : ∃ f, Mp 61 wr m2 (100 * P.ents.length + k) f ∧ ∀ q : Pt, f (ptv q) = (if q ∈ (points e.tx).take k then some e.id else P.sp q).map idv
  pts : Ts wr 0 61 33 pv e.tx.ins.length ((points e.tx).flatMap ptc)
  bel : Below base w wr
  ex : ∀ k, k < w.heap.size → k ≠ p → k ≠ m1 → k ≠ m2 → ov.ownBlock ≠ some k → wr.heap[k]? = w.heap[k]?

theorem FI.oth {base : Nat} {w wr wr' : World} {p m1 m2 b0 : Nat} {ov ov' : Value} {P : Pool} {e : Ent} {i u d pv : Value} {k k' : Nat} (h : FI base w wr p m1 m2 b0 ov ov' P e i u d pv k) (ho : Oth (some m2) wr wr') (hn : m1 ≠ m2)
    (hs : ∃ f, Mp 61 wr' m2 (100 * P.ents.length + k') f ∧ ∀ q : Pt, f (ptv q) = (if q ∈ (points e.tx).take k' then some e.id else P.sp q).map idv) (hb : Below base wr wr') : FI base w wr' p m1 m2 b0 ov ov' P e i u d pv k' := by
  obtain ⟨f, f1, f2, f3⟩ := h.l
  obtain ⟨g, g1, _⟩ := h.s
  have hK : KeepT base wr wr' := KeepT.oth ho (mp_mark g1)
  refine ⟨h.hp.oth ho (fun e => h.hp.ne_mp g1 (by simpa using e.symm)), h.he.oth ho (fun e => h.he.ne_mp g1 (by simpa using e.symm)), own_oth h.ord ho (fun g hg e => own_ne_mp h.ord g1 (by rw [hg, ← e])),
    ⟨f, f1.oth ho (by simpa using Ne.symm hn), fun e' he' => by obtain ⟨i, u, d, q1, q2⟩ := f2 e' he'; exact ⟨i, u, d, q1, q2.kept hK⟩, f3⟩, hs, ?_, h.bel.trans hb, fun k hk h1 h2 h3 h4 => ?_⟩
  · refine h.pts.kept fun g cur hv _ hg => ho.2 g (Array.getElem?_eq_some_iff.1 hg).1 fun e => ?_
    obtain rfl : m2 = g := by simpa using e
    obtain ⟨es, c, hb, _⟩ := g1
    rw [hg] at hb
    cases hb
  · exact (ho.2 k (Nat.lt_of_lt_of_le hk h.bel.size) (by simpa using Ne.symm h3)).trans (h.ex k hk h1 h2 h3 h4)

theorem KeepT.mono {b b' : Nat} {w w' : World} (h : KeepT b' w w') (hb : b' ≤ b) : KeepT b w w' := fun g cur T hg => h g cur T (Nat.le_trans hb hg)
theorem Mp.mono {k : TypeId} {w : World} {b n n' : Nat} {f} (h : Mp k w b n f) (hn : n ≤ n') : Mp k w b n' f := by
  obtain ⟨es, c, h1, h2, r⟩ := h
  exact ⟨es, c, h1, Nat.le_trans h2 hn, r⟩
theorem entc_tx_get' (e : Ent) (i u d : Value) : ∀ j v, (txc e.tx i u)[j]? = some v → (entc e i u d)[0 + j]? = some v := entc_tx_get e i u d
set_option maxHeartbeats 4000000 in
set_option maxRecDepth 100000 in
theorem Force_ok (base : Nat) (w : World) (p m1 m2 : Nat) (ov : Value) (P : Pool) (e : Ent) (i u d : Value) (h : PR base w p m1 m2 ov P) (hwf : EntWf e) (hne : ∀ e' ∈ P.ents, e'.id ≠ e.id) (hfew : P.ents.length < 1000000)
    (hT : TEnt w 0 e i u d) :
    Calls Tryd.prog 18 #[.pointer (some ⟨p, 0, none⟩), .agg (entc e i u d).toArray] w fun r w' => r = .returned (.tuple #[]) ∧ ∃ ov', PR base w' p m1 m2 ov' (P.add e) ∧ Below base w w' ∧
      ∀ k, k < w.heap.size → k ≠ p → k ≠ m1 → k ≠ m2 → ov.ownBlock ≠ some k → w'.heap[k]? = w.heap[k]? := by
  have H := Lib.hid h
  have HW := Lib.hid hwf
  have HN := Lib.hid hne
  have hpb := h.hb
  have hbase : base ≤ w.heap.size := Nat.le_of_lt (Nat.lt_of_le_of_lt h.bp h.hb.lt)
  have hplt := h.hb.lt
  have hord := h.ord
  have hdl := hwf.d
  have n2 := hwf.t.i2
  clear h hwf hne
  go_enter Tryd.func18, Tryd.ntmps18
  go_wp2_with fail
  have hbW : Below w.heap.size w (w.alloc (.cells (entc e i u d).toArray 42)) := (Below.refl _ _).alloc (Nat.le_refl _) _
  have b1 := HB.new w 42 (entc e i u d)
  have hsW : (w.alloc (.cells (entc e i u d).toArray 42)).heap.size = w.heap.size + 1 := by simp
  generalize w.alloc (.cells (entc e i u d).toArray 42) = W at *
  have hbW' := hbW.drew
  have hsW' : W.drew.heap.size = w.heap.size + 1 := hsW
  have b1' := b1.drew
  have hp' := (hpb.below hbW).drew
  have hord' : W.drew.ownsRow base 24 32 ov P.ents.length (P.ents.flatMap fun e => idc e.id) := own_below hord hbW'
  clear hbW hsW b1 hord hpb
  refine region_lex (by rfl) (fun w' => HB w' p 53 [ov, .map (some m1), .map (some m2)] ∧ HB w' w.heap.size 42 (entc e i u d)) [(0, true), (1, true), (2, true), (3, true), (4, true), (5, true), (6, true), (7, false), (8, false)] (fun _ _ d _ _ h => by cases d <;> exact h) (by kernel_rfl) (by kernel_rfl) ⟨hp', b1'⟩ ?_
  simp only [pick, List.getElem?_cons_succ, List.getElem?_cons_zero, List.drop_succ_cons, List.drop_zero, List.length_cons, List.length_nil, List.drop_nil]
  generalize W.drew = W0 at *
  refine lexMove (.tmp 0) (.pointer (some ⟨p, 0, none⟩)) rfl rfl rfl ?_
  simp only [Act.put, List.setIfInBounds_toArray, List.set_cons_zero, List.set_cons_succ]
  refine lexMove (.tmp 0) (.pointer (some ⟨p, 0, none⟩)) rfl rfl rfl ?_
  simp only [Act.put, List.setIfInBounds_toArray, List.set_cons_zero, List.set_cons_succ]
  refine lexNil (.tmp 7) ⟨p, 0, none⟩ rfl rfl rfl ?_
  simp only [Act.put, List.setIfInBounds_toArray, List.set_cons_zero, List.set_cons_succ]
  refine lexField 53 (.tmp 8) 0 p 0 0 rfl rfl rfl (faPool0 _ _) ?_
  simp only [Act.put, List.setIfInBounds_toArray, List.set_cons_zero, List.set_cons_succ]
  refine lexLoad1 51 (.tmp 9) p 0 _ _ rfl rfl rfl (fun w' h => h.1.cell rfl) Tryd.underlying51 rfl ?_
  simp only [Act.put, List.setIfInBounds_toArray, List.set_cons_zero, List.set_cons_succ]
  refine lexField 42 (.tmp 3) 1 w.heap.size 0 4 rfl rfl rfl (faEnt1 _ _) ?_
  simp only [Act.put, List.setIfInBounds_toArray, List.set_cons_zero, List.set_cons_succ]
  refine lexLoad 24 (.tmp 11) w.heap.size 4 (idc e.id) _ rfl rfl rfl (fun w' h => h.2.sub (entc_id_get e i u d)) Tryd.underlying24 rfl (by rw [idc_length]; exact szID) ?_
  simp only [Act.put, List.setIfInBounds_toArray, List.set_cons_zero, List.set_cons_succ]
  refine lexOp rfl (wp_slice1 51 24 (.tmp 12) rfl zID 32 32 Tryd.underlying51 infoID (by decide) (by decide) zcID (idc e.id) rfl (idc_length _) ?_)
  refine ⟨⟨hp'.alloc _, b1'.alloc _⟩, ?_⟩
  simp only [Act.put, List.setIfInBounds_toArray, List.set_cons_zero, List.set_cons_succ]
  have hn1 := HB.new W0 24 (idc e.id)
  have hb1 : Below W0.heap.size W0 (W0.alloc (.cells (idc e.id).toArray 24)) := (Below.refl _ _).alloc (Nat.le_refl _) _
  generalize W0.alloc (.cells (idc e.id).toArray 24) = W1 at *
  have hord1 := own_below hord' hb1
  have hs1 := hb1.size
  obtain ⟨ov', W2, hrun, hord2, hgrew⟩ := run_append_core (P := Tryd.prog) (w := W1) 51 51 24 base zID 32 32 Tryd.underlying51 infoID zcID (by decide) ov P.ents.length _ (Gs.own hord1) ⟨W0.heap.size, 0, none⟩ 1 1 (idc e.id) (by simp)
    (fun j v hv => by rw [Addr.add_mid, Nat.zero_add]; exact hn1.cell hv) (idc_one _) (by omega) (by decide) (by omega) (by decide)
  have ho2 := hgrew.oth
  have hpb2 := (hp'.below hb1).oth ho2 (own_ne_hb hord1 (hp'.below hb1) (by decide))
  have heb2 := (b1'.below hb1).oth ho2 (own_ne_hb hord1 (b1'.below hb1) (by decide))
  refine lexOp rfl (wp_append (.tmp 10) (.tmp 13) 51 rfl ov (.slice (some ⟨W0.heap.size, 0, none⟩) 1 1) rfl rfl ov' W2 hrun ?_)
  refine ⟨⟨hpb2, heb2⟩, ?_⟩
  simp only [Act.put, List.setIfInBounds_toArray, List.set_cons_zero, List.set_cons_succ]
  simp only [wpLex]
  have hco : ov'.cells = [ov'].toArray := by obtain ⟨a, n, c, rfl⟩ := (Rd.own hord2).sl; rfl
  have h1o : ∀ v ∈ [ov'], v.oneCell' = true := by intro v hv; obtain rfl := List.mem_singleton.1 hv; exact (Rd.own hord2).sl.one
  have hl0 : List.take 0 [ov, Value.map (some m1), .map (some m2)] ++ [ov'] ++ List.drop (0 + [ov'].length) [ov, Value.map (some m1), .map (some m2)] = [ov', .map (some m1), .map (some m2)] := rfl
  have hpb3 := hpb2.setRow [ov', .map (some m1), .map (some m2)]
  go_wp2_with (first
    | (with_reducible refine wpList_atS 16 ?_; go_loud (refine wpList_store_sub rfl 51 (.tmp 16) (.tmp 14) rfl p 0 _ _ [ov'] ov' rfl rfl hco hpb2 (by kernel_rfl) (by simp) h1o ?_); rw [hl0])
    | fail)
  obtain ⟨f1, m1m, m1e, m1n⟩ := H.out.l
  obtain ⟨f2, m2m, m2e⟩ := H.out.s
  have hn12 := H.out.n12
  have hB1 : Below w.heap.size w W1 := hbW'.trans (hb1.mono (by omega))
  have ho3 := Oth.setRow W2 p [ov', .map (some m1), .map (some m2)].toArray
  have hm1 := (((m1m.below hB1).oth ho2 (own_ne_mp hord1 (m1m.below hB1))).oth ho3 (fun q => hpb2.ne_mp ((m1m.below hB1).oth ho2 (own_ne_mp hord1 (m1m.below hB1))) (by simpa using q)))
  have hm2 := (((m2m.below hB1).oth ho2 (own_ne_mp hord1 (m2m.below hB1))).oth ho3 (fun q => hpb2.ne_mp ((m2m.below hB1).oth ho2 (own_ne_mp hord1 (m2m.below hB1))) (by simpa using q)))
  have hK : KeepT 0 w (W2.setRow p [ov', .map (some m1), .map (some m2)].toArray) := ((KeepT.of_below hB1).trans (KeepT.oth ho2 (own_mark hord1 nm_id))).trans (KeepT.oth ho3 (hb_mark hpb2 nm_pool))
  have heb3 := heb2.oth ho3 (by simpa using (show p ≠ w.heap.size by omega))
  have hord3 := own_oth hord2 ho3 (fun g hg q => own_ne_hb hord2 hpb2 (by decide) (by rw [hg, ← q]))
  have bel3 : Below base w (W2.setRow p [ov', .map (some m1), .map (some m2)].toArray) := Below.setRow ((hB1.mono hbase).trans (hgrew.below (by omega))) H.out.bp _
  have ex3 : ∀ k, k < w.heap.size → k ≠ p → ov.ownBlock ≠ some k → (W2.setRow p [ov', .map (some m1), .map (some m2)].toArray).heap[k]? = w.heap[k]? := fun k hk h1 h2 =>
    (ho3.2 k (Nat.lt_of_lt_of_le hk (Nat.le_trans hB1.size ho2.1)) (by simpa using Ne.symm h1)).trans ((ho2.2 k (Nat.lt_of_lt_of_le hk hB1.size) h2).trans (hB1.block k hk))
  clear hp' b1' hord' hbW' hsW' hn1 hb1 hord1 hs1 hgrew ho2 hpb2 heb2 hl0 hrun hord2 ho3 hB1
  change Code.wp _ _ _ _ (W2.setRow p [ov', .map (some m1), .map (some m2)].toArray)
  generalize W2.setRow p [ov', .map (some m1), .map (some m2)].toArray = W3 at *
  refine region_lex (by rfl) (fun w' => HB w' p 53 [ov', .map (some m1), .map (some m2)] ∧ HB w' w.heap.size 42 (entc e i u d)) [(0, true), (1, true), (2, true), (3, true), (4, true), (5, true), (6, true), (7, false), (8, false)] (fun _ _ d _ _ h => by cases d <;> exact h) (by kernel_rfl) (by kernel_rfl) ⟨hpb3.drew, heb3.drew⟩ ?_
  simp only [pick, List.getElem?_cons_succ, List.getElem?_cons_zero, List.drop_succ_cons, List.drop_zero, List.length_cons, List.length_nil, List.drop_nil]
  have hd3 : Below W3.heap.size W3 W3.drew := (Below.refl _ _).drew
  have hpb4 := hpb3.drew
  have heb4 := heb3.drew
  have hord4 : W3.drew.ownsRow base 24 32 ov' (P.ents.length + 1) _ := own_below hord3 hd3
  have hm1' := hm1.below hd3
  have hm2' := hm2.below hd3
  have hK' : KeepT 0 w W3.drew := hK.trans (.of_below hd3)
  have bel4 : Below base w W3.drew := bel3.drew
  have ex4 : ∀ k, k < w.heap.size → k ≠ p → ov.ownBlock ≠ some k → W3.drew.heap[k]? = w.heap[k]? := ex3
  clear hpb3 heb3 hord3 hm1 hm2 hK bel3 ex3 hd3
  generalize W3.drew = W4 at *
  refine lexMove (.tmp 0) (.pointer (some ⟨p, 0, none⟩)) rfl rfl rfl ?_
  simp only [Act.put, List.setIfInBounds_toArray, List.set_cons_zero, List.set_cons_succ]
  refine lexNil (.tmp 17) ⟨p, 0, none⟩ rfl rfl rfl ?_
  simp only [Act.put, List.setIfInBounds_toArray, List.set_cons_zero, List.set_cons_succ]
  refine lexField 53 (.tmp 18) 1 p 0 1 rfl rfl rfl (faPool1 _ _) ?_
  simp only [Act.put, List.setIfInBounds_toArray, List.set_cons_zero, List.set_cons_succ]
  refine lexLoad1 49 (.tmp 19) p 1 _ _ rfl rfl rfl (fun w' h => h.1.cell rfl) Tryd.underlying49 rfl ?_
  simp only [Act.put, List.setIfInBounds_toArray, List.set_cons_zero, List.set_cons_succ]
  refine lexField 42 (.tmp 3) 1 w.heap.size 0 4 rfl rfl rfl (faEnt1 _ _) ?_
  simp only [Act.put, List.setIfInBounds_toArray, List.set_cons_zero, List.set_cons_succ]
  refine lexLoad 24 (.tmp 21) w.heap.size 4 (idc e.id) _ rfl rfl rfl (fun w' h => h.2.sub (entc_id_get e i u d)) Tryd.underlying24 rfl (by rw [idc_length]; exact szID) ?_
  simp only [Act.put, List.setIfInBounds_toArray, List.set_cons_zero, List.set_cons_succ]
  refine lexLoad 42 (.tmp 3) w.heap.size 0 (entc e i u d) _ rfl rfl rfl (fun w' h => h.2.range) Tryd.underlying42 rfl (by rw [entc_length]; exact szEnt) ?_
  simp only [Act.put, List.setIfInBounds_toArray, List.set_cons_zero, List.set_cons_succ]
  have hT4 := hT.kept hK'
  refine lexOp rfl (wp_call 32 _ _ rfl [.agg (entc e i u d).toArray] rfl (fun _ _ => rfl) ((still_ok e i u d W4 HW.out.t hdl hT4.i.ri hT4.u.ro hT4.d.rd).mono ?_))
  rintro r w5 ⟨i', u', d', rfl, hT5, hb5⟩
  refine ⟨_, rfl, ⟨hpb4.below hb5, heb4.below hb5⟩, ?_⟩
  simp only [Act.put, List.setIfInBounds_toArray, List.set_cons_zero, List.set_cons_succ]
  obtain ⟨l1, hl1⟩ := keyID HW.out.id
  obtain ⟨w6, hput, hm6, hgr, hs6⟩ := (hm1'.below hb5).put keyedID Tryd.underlying49 (by simp only [maxLen]; omega) (val := .agg (entc e i' u' d').toArray) hl1
  have ho6 := Oth.of_grown hgr
  have hpb6 := (hpb4.below hb5).oth ho6 (fun q => (hpb4.below hb5).ne_mp (hm1'.below hb5) (by simpa using q.symm))
  have heb6 := (heb4.below hb5).oth ho6 (fun q => (heb4.below hb5).ne_mp (hm1'.below hb5) (by simpa using q.symm))
  refine lexOp rfl (wp_mapUpdate 49 (.tmp 20) (.tmp 22) (.tmp 24) rfl _ _ _ rfl rfl rfl hput ?_)
  refine ⟨⟨hpb6, heb6⟩, ?_⟩
  simp only [Act.put, List.setIfInBounds_toArray, List.set_cons_zero, List.set_cons_succ]
  simp only [wpLex, wpList]
  have hord6 := own_oth (own_below hord4 hb5) ho6 (fun g hg q => own_ne_mp (own_below hord4 hb5) (hm1'.below hb5) (by rw [hg, ← q]))
  have hm26 := (hm2'.below hb5).oth ho6 (by simpa using hn12)
  have hs5 := hb5.size
  have hs4 := bel4.size
  have bel6 : Below base w w6 := (bel4.trans (hb5.mono (by omega))).trans ((Below.refl base w5).grown hgr (by omega) fun k hk => by cases hk; exact H.out.b1)
  have hK6 : KeepT 0 w5 w6 := KeepT.oth ho6 (mp_mark (hm1'.below hb5))
  have hKw6 : KeepT 0 w w6 := (hK'.trans (.of_below hb5)).trans hK6
  have hTe6 : TEnt w6 base e i' u' d' := (hT5.kept (hK6.mono (Nat.zero_le _))).mono (by omega)
  have ex6 : ∀ k, k < w.heap.size → k ≠ p → k ≠ m1 → ov.ownBlock ≠ some k → w6.heap[k]? = w.heap[k]? := fun k hk h1 h2 h3 =>
    (ho6.2 k (by omega) (by simpa using Ne.symm h2)).trans ((hb5.block k (by omega)).trans (ex4 k hk h1 h3))
  have hl6 : ∃ f, Mp 24 w6 m1 (P.ents.length + 1) f ∧ (∀ e' ∈ P.ents ++ [e], ∃ i u d, f (idv e'.id) = some (.agg (entc e' i u d).toArray) ∧ TEnt w6 base e' i u d) ∧ (∀ x : ID, (∀ e' ∈ P.ents ++ [e], e'.id ≠ x) → f (idv x) = none) := by
    refine ⟨_, hm6, fun e' he' => ?_, fun x hx => ?_⟩
    · rcases List.mem_append.1 he' with h | h
      · obtain ⟨a, b, c, q1, q2⟩ := m1e e' h
        refine ⟨a, b, c, ?_, q2.kept (hKw6.mono (Nat.zero_le _))⟩
        rw [upd_other _ (fun q => HN.out e' h (idv_inj q))]
        exact q1
      · obtain rfl := List.mem_singleton.1 h
        exact ⟨i', u', d', upd_same _ _ _, hTe6⟩
    · rw [upd_other _ (fun q => hx e (by simp) (idv_inj q.symm))]
      exact m1n x fun e' he' => hx e' (by simp [he'])
  have hTw6 := hT.kept hKw6
  clear hm6 hgr hs6 ho6 hput hord4 hm1' hm2' hpb4 heb4 hK' bel4 ex4 hT4 hT5 hb5 hK6 hTe6 hs4 hs5
  change Exit.then _ _ _ _ w6
  have c6 : w6.rangeAt w.heap.size 0 (txc e.tx i u) := heb6.sub (entc_tx_get e i u d)
  go_wp2_with (first
    | (with_reducible refine wpList_at 26 ?_; go_loud (refine ldTx (w := w6) (.tmp 25) _ _ e.tx i u rfl rfl rfl c6 ?_))
    | fail)
  refine (Points_ok (txc e.tx i u) e.tx w6 ⟨i, u, rfl, hTw6.i.ri, hTw6.u.ro⟩ (by omega)).mono ?_
  rintro r w7 ⟨pv, rfl, hpv, hb7⟩
  have ho7 : Oth (some m2) w6 w7 := .of_below hb7
  have hpvl : pv = pv := rfl
  obtain ⟨pa, pc, rfl, hp1, hp2⟩ := (Ts.own hpv).form
  have hs6 := bel6.size
  have hF : FI base w w7 p m1 m2 w.heap.size ov ov' P e i u d (.slice pa e.tx.ins.length pc) 0 := by
    have hK7 : KeepT base w6 w7 := .of_below hb7
    obtain ⟨f, q1, q2, q3⟩ := hl6
    exact ⟨hpb6.below hb7, heb6.below hb7, by simpa using own_below hord6 hb7, ⟨f, q1.below hb7, fun e' he' => by obtain ⟨a, b, c, r1, r2⟩ := q2 e' he'; exact ⟨a, b, c, r1, r2.kept hK7⟩, q3⟩,
      ⟨f2, hm26.below hb7, fun q => by simpa using m2e q⟩, (Ts.own hpv).mono (Nat.zero_le _), bel6.trans (hb7.mono (by omega)), fun k hk h1 h2 _ h4 => (hb7.block k (by omega)).trans (ex6 k hk h1 h2 h4)⟩
  clear hpvl hpv ho7 hl6 hpb6 heb6 hord6 hm26 hKw6 ex6 c6 hTw6 hb7 bel6 hs6
  go_wp2_with fail
  go_loopw [29] (fun j wr => ∃ k : Nat, k ≤ e.tx.ins.length ∧ j = .int .i64 k ∧ FI base w wr p m1 m2 w.heap.size ov ov' P e i u d (.slice pa e.tx.ins.length pc) k) (fun j _ => e.tx.ins.length - (intOf j).toNat)
  case atStart => exact ⟨0, Nat.zero_le _, rfl, hF⟩
  case round =>
    clear hF
    obtain ⟨k, hk, rfl, hF⟩ := hrel
    by_cases hlt : k < e.tx.ins.length
    · have hpl : (points e.tx).length = e.tx.ins.length := by simp [points]
      have hp' : k < (points e.tx).length := by omega
      have hpt := Rd.at_ (l := points e.tx) (enc := ptc) (T := 61) (k := 33) (w := wr) (v := .slice pa (points e.tx).length pc) (by have := hF.pts.rd; rwa [← hpl] at this) ptc_length (by omega)
      obtain ⟨b, off, c', he, _, _, hb, hat⟩ := hpt
      obtain ⟨rfl, rfl⟩ : pa = some ⟨b, off, none⟩ ∧ pc = c' := by simpa using he
      have hr := hat k _ (List.getElem?_eq_getElem hp')
      have htk : (points e.tx).take (k + 1) = (points e.tx).take k ++ [(points e.tx)[k]] := List.take_succ_eq_append_getElem hp'
      have hqi : IdOk (points e.tx)[k].id ∧ W32 (points e.tx)[k].vout := by
        have hx := HW.out.iv _ (List.getElem_mem hlt)
        have hv := (HW.out.t.iv _ (List.getElem_mem hlt)).1
        simp only [points, List.getElem_map]
        exact ⟨hx, hv⟩
      have HTK := Lib.hid htk
      have HQ := Lib.hid hqi
      clear htk hqi hat he
      generalize (points e.tx)[k] = q at *
      have hszr := hF.bel.size
      go_wp2_with (first
        | (with_reducible refine wpList_at 32 ?_; go_loud (refine ldPt (.tmp 31) _ _ q rfl rfl rfl hr ?_))
        | (with_reducible refine wpList_at 5 ?_; go_loud (refine asPt (.tmp 32) 5 q rfl rfl rfl rfl rfl rfl rfl rfl ?_))
        | fail)
      have hbA : Below wr.heap.size wr (wr.alloc (.cells (ptc q).toArray 61)) := (Below.refl _ _).alloc (Nat.le_refl _) _
      have hqb := HB.new wr 61 (ptc q)
      generalize wr.alloc (.cells (ptc q).toArray 61) = WA at *
      have hbA' := hbA.drew
      have hqb' := hqb.drew
      have hpA := (hF.hp.below hbA')
      have heA := (hF.he.below hbA')
      obtain ⟨fs, g1, g2⟩ := hF.s
      have gA := g1.below hbA'
      clear hbA hqb hr
      refine region_lex (by rfl) (fun w' => HB w' p 53 [ov', .map (some m1), .map (some m2)] ∧ HB w' w.heap.size 42 (entc e i u d) ∧ HB w' wr.heap.size 61 (ptc q)) [(0, true), (1, true), (2, true), (3, true), (4, true), (5, true), (6, true), (7, false)] (fun _ _ d _ _ h => by cases d <;> exact h) (by kernel_rfl) (by kernel_rfl) ⟨hpA, heA, hqb'⟩ ?_
      simp only [pick, List.getElem?_cons_succ, List.getElem?_cons_zero, List.drop_succ_cons, List.drop_zero, List.length_cons, List.length_nil, List.drop_nil]
      generalize WA.drew = WB at *
      refine lexMove (.tmp 0) (.pointer (some ⟨p, 0, none⟩)) rfl rfl rfl ?_
      simp only [Act.put, List.setIfInBounds_toArray, List.set_cons_zero, List.set_cons_succ]
      refine lexNil (.tmp 33) ⟨p, 0, none⟩ rfl rfl rfl ?_
      simp only [Act.put, List.setIfInBounds_toArray, List.set_cons_zero, List.set_cons_succ]
      refine lexField 53 (.tmp 34) 2 p 0 2 rfl rfl rfl (faPool2 _ _) ?_
      simp only [Act.put, List.setIfInBounds_toArray, List.set_cons_zero, List.set_cons_succ]
      refine lexLoad1 50 (.tmp 35) p 2 _ _ rfl rfl rfl (fun w' h => h.1.cell rfl) Tryd.underlying50 rfl ?_
      simp only [Act.put, List.setIfInBounds_toArray, List.set_cons_zero, List.set_cons_succ]
      refine lexLoad 61 (.tmp 5) wr.heap.size 0 (ptc q) _ rfl rfl rfl (fun w' h => h.2.2.range) Tryd.underlying61 rfl (by rw [ptc_length]; exact szPt) ?_
      simp only [Act.put, List.setIfInBounds_toArray, List.set_cons_zero, List.set_cons_succ]
      refine lexField 42 (.tmp 3) 1 w.heap.size 0 4 rfl rfl rfl (faEnt1 _ _) ?_
      simp only [Act.put, List.setIfInBounds_toArray, List.set_cons_zero, List.set_cons_succ]
      refine lexLoad 24 (.tmp 38) w.heap.size 4 (idc e.id) _ rfl rfl rfl (fun w' h => h.2.1.sub (entc_id_get e i u d)) Tryd.underlying24 rfl (by rw [idc_length]; exact szID) ?_
      simp only [Act.put, List.setIfInBounds_toArray, List.set_cons_zero, List.set_cons_succ]
      obtain ⟨l2, hl2⟩ := keyPt HQ.out.1 HQ.out.2
      obtain ⟨w8, hput, hm8, hgr, hs8⟩ := gA.put keyedPt Tryd.underlying50 (by simp only [maxLen]; omega) (val := .agg (idc e.id).toArray) hl2
      have ho8 := Oth.of_grown hgr
      have ne1 : some m2 ≠ some p := fun z => hpA.ne_mp gA (by simpa using z.symm)
      have ne2 : some m2 ≠ some w.heap.size := fun z => heA.ne_mp gA (by simpa using z.symm)
      have ne3 : some m2 ≠ some wr.heap.size := fun z => hqb'.ne_mp gA (by simpa using z.symm)
      refine lexOp rfl (wp_mapUpdate 50 (.tmp 36) (.tmp 37) (.tmp 39) rfl _ _ _ rfl rfl rfl hput ?_)
      refine ⟨⟨hpA.oth ho8 ne1, heA.oth ho8 ne2, hqb'.oth ho8 ne3⟩, ?_⟩
      simp only [Act.put, List.setIfInBounds_toArray, List.set_cons_zero, List.set_cons_succ]
      simp only [wpLex, wpList]
      have hsA := hbA'.size
      have hF' : FI base w w8 p m1 m2 w.heap.size ov ov' P e i u d (.slice (some ⟨b, off, none⟩) e.tx.ins.length pc) (k + 1) := by
        refine hF.oth ((Oth.of_below hbA').trans ho8) hn12 ⟨_, hm8.mono (by omega), fun q' => ?_⟩ ((hbA'.mono (by omega)).trans ((Below.refl base WB).grown hgr (by omega) fun k hk => by cases hk; exact H.out.b2))
        rw [HTK.out]
        by_cases hqq : q' = q
        · subst hqq
          rw [upd_same]
          simp [idv]
        · rw [upd_other _ (fun z => hqq (ptv_inj z)), g2 q']
          simp [hqq]
      clear hF hpA heA hqb' gA g1 g2 hput hm8 hgr hs8 ho8 hbA' ne1 ne2 ne3
      go_wp2_with fail
      go_roundw
      case rel => exact ⟨k + 1, by omega, by go_num, hF'⟩
      case measure => simp [intOf]; omega
    · obtain rfl : k = e.tx.ins.length := by omega
      have hpl : (points e.tx).length = e.tx.ins.length := by simp [points]
      go_wp2_with fail
      go_end0
      obtain ⟨fs, g1, g2⟩ := hF.s
      refine ⟨rfl, ov', ⟨hF.hp, by simpa [Pool.add] using hF.ord, by simpa [Pool.add] using hF.l, ⟨fs, g1.mono (by simp [Pool.add]; omega), fun q => ?_⟩, hn12, H.out.bp, H.out.b1, H.out.b2, ?_, ?_, by simp [Pool.add]; omega⟩, hF.bel, hF.ex⟩
      · rw [g2 q, ← hpl, List.take_length]
        rfl
      · simp only [Pool.add, List.map_append, List.map_cons, List.map_nil]
        rw [List.nodup_append]
        refine ⟨H.out.nd, by simp, fun a ha b hb => ?_⟩
        obtain ⟨e', he', rfl⟩ := List.mem_map.1 ha
        obtain rfl : b = e.id := by simpa using hb
        exact HN.out e' he'
      · intro e' he'
        rcases List.mem_append.1 he' with h | h
        · exact H.out.wf e' h
        · obtain rfl := List.mem_singleton.1 h
          exact HW.out
end Go.Proofs.YtdpobhcpmpfioaaDoor

namespace Go.Proofs.YtdpobhcpmpfioaaDoor
open Go.RowKit

def Pool.taken (P : Pool) (e : Ent) : Bool := (P.find e.id).isSome || (points e.tx).any fun q => (P.sp q).isSome

def Pool.put (P : Pool) (e : Ent) : Pool := if P.taken e = true then P else P.add e
theorem put_t {P : Pool} {e : Ent} (h : P.taken e = true) : P.put e = P := by simp [Pool.put, h]
theorem put_f {P : Pool} {e : Ent} (h : P.taken e = false) : P.put e = P.add e := by simp [Pool.put, h]
set_option maxHeartbeats 4000000 in
set_option maxRecDepth 100000 in
theorem Add_ok (base : Nat) (w : World) (p m1 m2 : Nat) (ov : Value) (P : Pool) (e : Ent) (i u d : Value) (h : PR base w p m1 m2 ov P) (hwf : EntWf e) (hfew : P.ents.length < 1000000) (hT : TEnt w 0 e i u d) :
    Calls Tryd.prog 6 #[.pointer (some ⟨p, 0, none⟩), .agg (entc e i u d).toArray] w fun r w' => r = .returned (.bool (!P.taken e)) ∧ ∃ ov', PR base w' p m1 m2 ov' (P.put e) ∧ Below base w w' ∧
      ∀ k, k < w.heap.size → k ≠ p → k ≠ m1 → k ≠ m2 → ov.ownBlock ≠ some k → w'.heap[k]? = w.heap[k]? := by
  have hbase : base ≤ w.heap.size := Nat.le_of_lt (Nat.lt_of_le_of_lt h.bp h.hb.lt)
  have H := Lib.hid h
  have HW := Lib.hid hwf
  have n2 := hwf.t.i2
  clear h hwf
  go_enter Tryd.func6, Tryd.ntmps6
  obtain ⟨W, hW, b1, b2, hbW, hsW⟩ : ∃ W, (w.alloc (.cells #[.pointer (some ⟨p, 0, none⟩)] 36)).alloc (.cells (entc e i u d).toArray 42) = W ∧
      HB W w.heap.size 36 [.pointer (some ⟨p, 0, none⟩)] ∧ HB W (w.heap.size + 1) 42 (entc e i u d) ∧ Below w.heap.size w W ∧ W.heap.size = w.heap.size + 2 := by
    refine ⟨_, rfl, HB.alloc (HB.new w 36 [.pointer (some ⟨p, 0, none⟩)]) _, ?_, ((Below.refl _ _).alloc (Nat.le_refl _) _).alloc (by simp) _, by simp⟩
    have := HB.new (w.alloc (.cells #[.pointer (some ⟨p, 0, none⟩)] 36)) 42 (entc e i u d)
    simpa using this
  have hTW := hT.below hbW
  have cW : W.rangeAt (w.heap.size + 1) 0 (txc e.tx i u) := b2.sub (entc_tx_get e i u d)
  go_wp2_with (first
    | (with_reducible refine wpList_at 10 ?_; go_loud (refine ldTx (w := W) (.tmp 9) _ _ e.tx i u rfl rfl rfl cW ?_))
    | fail)
  clear hW
  refine (Points_ok (txc e.tx i u) e.tx W ⟨i, u, rfl, hTW.i.ri, hTW.u.ro⟩ (by omega)).mono ?_
  rintro r w1 ⟨pv, rfl, hpv, hb1⟩
  go_wp2_with fail
  have hB1 : Below w.heap.size w w1.drew := (hbW.trans (hb1.mono (by omega))).drew
  have hs1 := hb1.size
  have hPR := H.out.below hB1
  obtain ⟨b, c, hc, h1c, hlk, hbq, _, _⟩ := hPR.look e.id HW.out.id
  have HBQ := Lib.hid hbq
  clear hbq
  have g1 := (b1.below hb1).drew
  have g2 := (b2.below hb1).drew
  have gp := hPR.hb
  have hpv1 : Ts w1.drew W.heap.size 61 33 pv e.tx.ins.length ((points e.tx).flatMap ptc) := Ts.below (Ts.own hpv) ((Below.refl _ _).drew)
  have hT1 := hT.below hB1
  obtain ⟨pa, pc, rfl, hp1, hp2⟩ := hpv1.form
  refine region_lex (by rfl) (fun w' => Below w1.drew.heap.size w1.drew w') [(0, true), (1, true), (2, true), (3, true), (4, true), (5, true), (6, true), (7, true), (8, true), (9, true), (10, false), (11, false), (12, true)] (fun _ _ d _ _ h => by cases d <;> exact h) (by kernel_rfl) (by kernel_rfl) (Below.refl _ _) ?_
  simp only [pick, List.getElem?_cons_succ, List.getElem?_cons_zero, List.drop_succ_cons, List.drop_zero, List.length_cons, List.length_nil, List.drop_nil]
  have q0 : ∀ w', Below w1.drew.heap.size w1.drew w' → w'.cell? ⟨w.heap.size, 0, none⟩ = some (.pointer (some ⟨p, 0, none⟩)) := fun w' h => (g1.below h).cell rfl
  have q1 : ∀ w', Below w1.drew.heap.size w1.drew w' → w'.rangeAt (w.heap.size + 1) 4 (idc e.id) := fun w' h => (g2.below h).sub (entc_id_get e i u d)
  have q2 : ∀ w', Below w1.drew.heap.size w1.drew w' → w'.cell? ⟨p, 1, none⟩ = some (.map (some m1)) := fun w' h => (gp.below h).cell rfl
  have hsz1 : W.heap.size ≤ w1.drew.heap.size := hs1
  clear hb1 hs1 hbW hpv hTW cW b1 b2
  generalize w1.drew = W0 at *
  refine lexLoad1 36 (.tmp 2) w.heap.size 0 _ _ rfl rfl rfl q0 Tryd.underlying36 rfl ?_
  simp only [Act.put, List.setIfInBounds_toArray, List.set_cons_zero, List.set_cons_succ]
  refine lexNil (.tmp 14) ⟨p, 0, none⟩ rfl rfl rfl ?_
  simp only [Act.put, List.setIfInBounds_toArray, List.set_cons_zero, List.set_cons_succ]
  refine lexField 53 (.tmp 15) 1 p 0 1 rfl rfl rfl (faPool1 _ _) ?_
  simp only [Act.put, List.setIfInBounds_toArray, List.set_cons_zero, List.set_cons_succ]
  refine lexLoad1 49 (.tmp 16) p 1 _ _ rfl rfl rfl q2 Tryd.underlying49 rfl ?_
  simp only [Act.put, List.setIfInBounds_toArray, List.set_cons_zero, List.set_cons_succ]
  refine lexField 42 (.tmp 3) 1 (w.heap.size + 1) 0 4 rfl rfl rfl (faEnt1 _ _) ?_
  simp only [Act.put, List.setIfInBounds_toArray, List.set_cons_zero, List.set_cons_succ]
  refine lexLoad 24 (.tmp 18) (w.heap.size + 1) 4 (idc e.id) _ rfl rfl rfl q1 Tryd.underlying24 rfl (by rw [idc_length]; exact szID) ?_
  simp only [Act.put, List.setIfInBounds_toArray, List.set_cons_zero, List.set_cons_succ]
  refine lexLookup 49 (.tmp 17) (.tmp 19) (.map (some m1)) (.agg (idc e.id).toArray) (.tuple #[.agg c.toArray, .bool b]) rfl rfl rfl rfl hlk ?_
  simp only [Act.put, List.setIfInBounds_toArray, List.set_cons_zero, List.set_cons_succ]
  refine lexMove (.tmp 20) (.tuple #[.agg c.toArray, .bool b]) rfl rfl rfl ?_
  simp only [Act.put, List.setIfInBounds_toArray, List.set_cons_zero, List.set_cons_succ]
  refine lexExtract (.tmp 13) 0 _ (.agg c.toArray) rfl rfl rfl rfl ?_
  simp only [Act.put, List.setIfInBounds_toArray, List.set_cons_zero, List.set_cons_succ]
  refine lexExtract (.tmp 13) 1 _ (.bool b) rfl rfl rfl rfl ?_
  simp only [Act.put, List.setIfInBounds_toArray, List.set_cons_zero, List.set_cons_succ]
  have hn := HB.new W0 42 zE
  refine lexOp rfl (wp_alloc 42 rfl 72 (.agg zE.toArray) infoEnt ?_)
  refine ⟨(Below.refl _ _).alloc (Nat.le_refl _) _, ?_⟩
  simp only [Act.put, List.setIfInBounds_toArray, List.set_cons_zero, List.set_cons_succ]
  refine lexOp rfl (wp_store_row 42 (.tmp 7) (.tmp 21) rfl W0.heap.size c.toArray rfl rfl _ _ hn.hp (by rw [List.size_toArray, hc]; exact szEnt) (by rw [List.size_toArray, List.size_toArray, hc]; exact zE_length) (all_oneCell_toArray h1c) ?_)
  refine ⟨Below.setRow ((Below.refl _ _).alloc (Nat.le_refl _) _) (Nat.le_refl _) _, ?_⟩
  simp only [Act.put, List.setIfInBounds_toArray, List.set_cons_zero, List.set_cons_succ]
  refine lexAssign (.tmp 22) (.bool b) rfl rfl rfl ?_
  simp only [Act.put, List.setIfInBounds_toArray, List.set_cons_zero, List.set_cons_succ]
  simp only [wpLex, wpList]
  have hB2 : Below W0.heap.size W0 ((W0.alloc (.cells zE.toArray 42)).setRow W0.heap.size c.toArray) := Below.setRow ((Below.refl _ _).alloc (Nat.le_refl _) _) (Nat.le_refl _) _
  change Exit.then _ _ _ _ ((W0.alloc (.cells zE.toArray 42)).setRow W0.heap.size c.toArray)
  generalize (W0.alloc (.cells zE.toArray 42)).setRow W0.heap.size c.toArray = W1 at *
  have hs2 := hB2.size
  have k1 := g1.below hB2
  have k2 := g2.below hB2
  have hPR2 := hPR.below hB2
  have hpv2 := Ts.below hpv1 hB2
  have hT2 := hT1.below hB2
  have hBw : Below w.heap.size w W1 := hB1.trans (hB2.mono (by omega))
  clear hB1 hB2 hPR g1 g2 gp hpv1 hT1 q0 q1 q2 hlk hn
  have hpl : (points e.tx).length = e.tx.ins.length := by simp [points]
  have hcf := ContainsFuncPt (.slice pa e.tx.ins.length pc) (points e.tx) (fun q => (P.sp q).isSome) 16 #[.pointer (some ⟨w.heap.size, 0, none⟩)] W1 (by have := hpv2.rd; rwa [← hpl] at this ⊢) (by omega) (fun _ _ => rfl)
    (fun Wx q hq hbx => by
      obtain ⟨x, hx, rfl⟩ := List.mem_map.1 hq
      exact Add1_ok base Wx p m1 m2 w.heap.size ov P _ (hPR2.below hbx) (HW.out.iv x hx) (HW.out.t.iv x hx).1 ((k1.below hbx).cell rfl))
  have HCF := Lib.hid hcf
  clear hcf
  cases hbv : b with
  | true =>
    have htk : P.taken e = true := by simp only [Pool.taken, ← HBQ.out, hbv, Bool.true_or]
    have HTK := Lib.hid htk
    clear htk
    subst hbv
    go_wp2_with fail
    go_ret
    refine ⟨by rw [HTK.out]; rfl, ov, by rw [put_t HTK.out]; exact hPR2, hBw.mono hbase, fun k hk _ _ _ _ => hBw.block k hk⟩
  | false =>
    subst hbv
    have hfn : P.find e.id = none := by
      cases hf : P.find e.id with
      | none => rfl
      | some x => rw [hf] at HBQ; exact absurd HBQ.out (by simp)
    go_wp2_with fail
    refine HCF.out.mono ?_
    rintro r w2 ⟨rfl, hb2⟩
    cases hany : (points e.tx).any (fun q => (P.sp q).isSome) with
    | true =>
      have HTK : Hid (P.taken e = true) := Lib.hid (by simp only [Pool.taken, hany, Bool.or_true])
      go_wp2_with fail
      go_ret
      refine ⟨by rw [HTK.out]; rfl, ov, by rw [put_t HTK.out]; exact hPR2.below hb2, (hBw.mono hbase).trans (hb2.mono (by have := hBw.size; omega)), fun k hk _ _ _ _ => (hb2.block k (by have := hBw.size; omega)).trans (hBw.block k hk)⟩
    | false =>
      have HTK : Hid (P.taken e = false) := Lib.hid (by simp only [Pool.taken, hany, hfn, Option.isSome_none, Bool.or_false])
      have hne : ∀ e' ∈ P.ents, e'.id ≠ e.id := by
        rcases find_spec P e.id with ⟨x, _, _, hx⟩ | ⟨h, _⟩
        · rw [hfn] at hx; cases hx
        · exact h
      have j1 := (k1.below hb2).cell (j := 0) rfl
      have j2 := (k2.below hb2).range
      have hPR3 := hPR2.below hb2
      have hT3 := hT2.below hb2
      clear HCF
      go_wp2_with (first
        | (with_reducible refine wpList_at 30 ?_; go_loud (refine ldEnt (w := w2) (.tmp 3) _ _ e i u d rfl rfl rfl j2 ?_))
        | fail)
      refine (Force_ok base w2 p m1 m2 ov P e i u d hPR3 HW.out hne hfew hT3).mono ?_
      rintro r w3 ⟨rfl, ov', hR, hb3, hex⟩
      go_wp2_with fail
      go_ret
      refine ⟨by rw [HTK.out]; rfl, ov', by rw [put_f HTK.out]; exact hR, ((hBw.mono hbase).trans (hb2.mono (by have := hBw.size; omega))).trans hb3, fun k hk h1 h2 h3 h4 => (hex k (by have := hBw.size; have := hb2.size; omega) h1 h2 h3 h4).trans ((hb2.block k (by have := hBw.size; omega)).trans (hBw.block k hk))⟩
end Go.Proofs.YtdpobhcpmpfioaaDoor

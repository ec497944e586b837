import Derived.Test.YtdpobhcpmpfioaaDoorM04
import Derived.Maps.Keyed
import Derived.DeepKeys4
import Derived.WideKeyArr
set_option linter.all false
set_option linter.unusedVariables false
set_option linter.unusedSimpArgs false
/-! Maps keyed by IDs and points: a block that holds the map f of at most n entries; looked up, written. -/
namespace Go.Proofs.YtdpobhcpmpfioaaDoor
open Go.RowKit Go.Maps
open Go.ChangeMaps (heap_setBlock_same heap_setBlock_other)

theorem mapM_of {α β : Type} (f : α → Option β) (g : α → β) : ∀ (l : List α), (∀ x ∈ l, f x = some (g x)) → l.mapM f = some (l.map g)
  | [], _ => rfl
  | x :: r, h => by
    rw [List.mapM_cons, h x (by simp), mapM_of f g r (fun y hy => h y (by simp [hy]))]
    rfl

def IdOk (x : ID) : Prop := ∀ b ∈ x.1, 0 ≤ b ∧ b < 256
theorem laidOut : laidOutB Tryd.prog = true := by kernel_rfl
theorem rowID : (24 : TypeId) < Tryd.prog.types.size := of_decide_eq_true (by kernel_rfl)
theorem rowPt : (61 : TypeId) < Tryd.prog.types.size := of_decide_eq_true (by kernel_rfl)
theorem wideID : (match Tryd.prog.underlying 24 with | some (.array _ _) | some (.struct _) => true | _ => false) = true := by rw [Tryd.underlying24]
theorem widePt : (match Tryd.prog.underlying 61 with | some (.array _ _) | some (.struct _) => true | _ => false) = true := by rw [Tryd.underlying61]
set_option maxRecDepth 100000 in
theorem keyedID : Keyed Tryd.prog 24 := Keyed.of_law (deep_law_laid laidOut (m := 2) (by omega) rowID (by kernel_rfl) wideID)
set_option maxRecDepth 100000 in
theorem keyedPt : Keyed Tryd.prog 61 := Keyed.of_law (deep_law_laid laidOut (m := 3) (by omega) rowPt (by kernel_rfl) widePt)
theorem keyTypeID : Tryd.prog.keyType 24 = true := by kernel_rfl
theorem keyTypePt : Tryd.prog.keyType 61 = true := by kernel_rfl
theorem cellsID : Tryd.prog.cellsOf 24 = 32 := by kernel_rfl
theorem cellsPt : Tryd.prog.cellsOf 61 = 33 := by kernel_rfl
theorem cells8 : Tryd.prog.cellsOf 5 = 1 := by kernel_rfl
theorem cells32 : Tryd.prog.cellsOf 23 = 1 := by kernel_rfl

theorem lits8 (d : Nat) (x : Int) (h : 0 ≤ x ∧ x < 256) : Tryd.prog.keyLits (d + 1) 5 [.int .u8 x] = some [.int .u8 x] := by
  unfold Program.keyLits
  rw [Tryd.underlying5]
  have : (Lit.int .u8 x).wf = true := by have e1 : IntKind.u8.min = 0 := rfl; have e2 : IntKind.u8.max = 255 := rfl; have e3 : IntKind.u32.min = 0 := rfl; have e4 : IntKind.u32.max = 4294967295 := rfl; simp [Lit.wf, e1, e2, e3, e4]; omega
  simp [this]
theorem lits32 (d : Nat) (x : Int) (h : 0 ≤ x ∧ x < 4294967296) : Tryd.prog.keyLits (d + 1) 23 [.int .u32 x] = some [.int .u32 x] := by
  unfold Program.keyLits
  rw [Tryd.underlying23]
  have : (Lit.int .u32 x).wf = true := by have e1 : IntKind.u8.min = 0 := rfl; have e2 : IntKind.u8.max = 255 := rfl; have e3 : IntKind.u32.min = 0 := rfl; have e4 : IntKind.u32.max = 4294967295 := rfl; simp [Lit.wf, e1, e2, e3, e4]; omega
  simp [this]
theorem litsID (d : Nat) (x : ID) (h : IdOk x) : ∃ L, Tryd.prog.keyLits (d + 2) 24 (idc x) = some L := by
  unfold Program.keyLits
  rw [Tryd.underlying24]
  simp only [cellsID, idc_length, if_true, cells8]
  rw [mapM_of _ (fun i => [Lit.int .u8 (x.1.getD i 0)]) (List.range 32)]
  · exact ⟨_, rfl⟩
  · intro i hi
    have hi' : i < 32 := by simpa using hi
    have e : (List.drop (i * 1) (idc x)).take 1 = [.int .u8 (x.1.getD i 0)] := by
      have hl : i < (idc x).length := by rw [idc_length]; exact hi'
      have hx : i < x.1.length := by rw [x.2]; exact hi'
      rw [Nat.mul_one, List.drop_eq_getElem_cons hl, List.take_succ_cons, List.take_zero]
      simp [idc, List.getElem?_eq_getElem hx]
    rw [e]
    refine lits8 d _ (h _ ?_)
    have hx : i < x.1.length := by rw [x.2]; exact hi'
    simp [List.getElem?_eq_getElem hx]
theorem keyID {x : ID} (h : IdOk x) : ∃ l, keyOf Tryd.prog 24 (idv x) = some l := by
  unfold keyOf
  rw [Tryd.underlying24]
  have hf : (idv x).formed Tryd.prog 24 = true := by simp [idv, Value.formed, Tryd.underlying24, cellsID]
  have hz : ∃ m, Tryd.prog.types.size + 1 = m + 2 := ⟨Tryd.prog.types.size - 1, by have : (24 : Nat) < Tryd.prog.types.size := rowID; omega⟩
  obtain ⟨m, hm⟩ := hz
  obtain ⟨L, hL⟩ := litsID m x h
  have hc : (idv x).cells.toList = idc x := by simp [idv, Value.cells]
  simp only [keyTypeID, hf, Bool.and_self, if_true, hm, hc, hL]
  exact ⟨_, rfl⟩
def ptv (p : Pt) : Value := .agg (ptc p).toArray
theorem keyPt {x : Pt} (h : IdOk x.id) (hv : 0 ≤ x.vout ∧ x.vout < 4294967296) : ∃ l, keyOf Tryd.prog 61 (ptv x) = some l := by
  unfold keyOf
  rw [Tryd.underlying61]
  have hf : (ptv x).formed Tryd.prog 61 = true := by simp [ptv, Value.formed, Tryd.underlying61, cellsPt]
  have hz : ∃ m, Tryd.prog.types.size + 1 = m + 3 := ⟨Tryd.prog.types.size - 2, by have : (61 : Nat) < Tryd.prog.types.size := rowPt; omega⟩
  obtain ⟨m, hm⟩ := hz
  obtain ⟨L, hL⟩ := litsID m x.id h
  have hc : (ptv x).cells.toList = ptc x := by simp [ptv, Value.cells]
  have hk : ∃ K, Tryd.prog.keyLits (m + 3) 61 (ptc x) = some K := by
    unfold Program.keyLits
    rw [Tryd.underlying61]
    simp only [cellsPt, ptc_length, true_and]
    have e1 : List.take 32 (List.drop 0 (ptc x)) = idc x.id := by simp [ptc, List.take_append]
    have e2 : List.take 1 (List.drop 32 (ptc x)) = [.int .u32 x.vout] := by simp [ptc, List.drop_append]
    simp [cellsID, cells32, e1, e2, hL, lits32 (m + 1) _ hv]
    all_goals (try simp [ptc, List.take_append, List.drop_append, hL, lits32 (m + 1) _ hv])
  obtain ⟨K, hK⟩ := hk
  simp only [keyTypePt, hf, Bool.and_self, if_true, hm, hc, hK]
  exact ⟨_, rfl⟩

theorem idv_inj {x y : ID} (h : idv x = idv y) : x = y := by
  have h1 : idc x = idc y := by simpa [idv] using h
  apply Subtype.ext
  exact (List.map_inj_right (f := Value.int .u8) (fun a b h => by simpa using h)).1 h1
theorem ptv_inj {x y : Pt} (h : ptv x = ptv y) : x = y := by
  have h1 : ptc x = ptc y := by simpa [ptv] using h
  obtain ⟨h2, h3⟩ := List.append_inj h1 (by simp)
  obtain ⟨i, n⟩ := x
  obtain ⟨i', n'⟩ := y
  simp only [List.cons.injEq, Value.int.injEq, and_true, true_and] at h3
  have : i = i' := idv_inj (by simp [idv]; exact h2)
  simp_all

/-- block b holds a map of at most n entries that answers f -/
def Mp (k : TypeId) (w : World) (b n : Nat) (f : Value → Option Value) : Prop :=
  ∃ es clock, w.heap[b]? = some (.map es clock) ∧ es.size ≤ n ∧ (∀ e ∈ es.toList, ∃ l, keyOf Tryd.prog k e.key = some l) ∧ es.toList.Pairwise (fun x y => x.key ≠ y.key) ∧
    (∀ e ∈ es.toList, f e.key = some e.val) ∧ (∀ key v, f key = some v → ∃ e ∈ es.toList, e.key = key)
theorem Mp.lt {k : TypeId} {w : World} {b n : Nat} {f} (h : Mp k w b n f) : b < w.heap.size := by
  obtain ⟨es, c, hb, _⟩ := h
  exact (Array.getElem?_eq_some_iff.1 hb).1
theorem Mp.made (k : TypeId) (w : World) : Mp k (w.alloc (.map #[] 0)) w.heap.size 0 (fun _ => none) :=
  ⟨#[], 0, (MapKept.heap_alloc w _).1, Nat.le_refl _, by simp, by simp, by simp, by simp⟩
theorem Mp.of_heap {k : TypeId} {w w' : World} {b n : Nat} {f} (h : Mp k w b n f) (e : w'.heap[b]? = w.heap[b]?) : Mp k w' b n f := by
  obtain ⟨es, c, hb, r⟩ := h
  exact ⟨es, c, e.trans hb, r⟩
theorem Mp.below {k : TypeId} {w w' : World} {b n : Nat} {f} (h : Mp k w b n f) (hb : Below w.heap.size w w') : Mp k w' b n f :=
  h.of_heap (hb.block b h.lt)
theorem Mp.look {k e t : TypeId} {w : World} {b n : Nat} {f} (h : Mp k w b n f) (K : Keyed Tryd.prog k) (ht : Tryd.prog.underlying t = some (.map k e)) {z : Value} (hz : (zeroValue e).run Tryd.prog w = .ok z w)
    {key : Value} {l : Lit} (hkey : keyOf Tryd.prog k key = some l) :
    (Instr.lookup t (.map (some b)) key true).run Tryd.prog w = .ok (.tuple #[(f key).getD z, .bool (f key).isSome]) w := by
  obtain ⟨es, c, hb, hn, hk, hd, h1, h2⟩ := h
  rcases K.find w hkey es.toList hk with ⟨h3, h4⟩ | ⟨j, e0, h3, h4, h5⟩
  · have : f key = none := by
      cases hf : f key with
      | none => rfl
      | some v =>
        obtain ⟨e, he, hek⟩ := h2 key v hf
        exact absurd hek (h4 e he)
    rw [this]
    simp [Instr.lookup, run_underlying ht, MapKept.run_getObj_map hb, K.check w _ hkey, h3, hz, Result.andThen]
  · have : f key = some e0.val := by rw [← h5]; exact h1 e0 (List.mem_of_getElem? h4)
    rw [this]
    simp [Instr.lookup, run_underlying ht, MapKept.run_getObj_map hb, K.check w _ hkey, h3, Result.andThen]
noncomputable def upd (f : Value → Option Value) (key val : Value) : Value → Option Value := fun x => @ite _ (x = key) (Classical.propDecidable _) (some val) (f x)
theorem upd_same (f key val) : upd f key val key = some val := by simp [upd]
theorem upd_other {f : Value → Option Value} {key x : Value} (val : Value) (h : x ≠ key) : upd f key val x = f x := by simp [upd, h]
theorem Mp.put {k e t : TypeId} {w : World} {b n : Nat} {f} (h : Mp k w b n f) (K : Keyed Tryd.prog k) (ht : Tryd.prog.underlying t = some (.map k e)) (hn : n < maxLen)
    {key val : Value} {l : Lit} (hkey : keyOf Tryd.prog k key = some l) :
    ∃ w', (Instr.mapUpdate t (.map (some b)) key val).run Tryd.prog w = .ok () w' ∧ Mp k w' b (n + 1) (upd f key val) ∧ w.grownBy w' (some b) ∧ w'.heap.size = w.heap.size := by
  obtain ⟨es, c, hb, hs, hk, hd, h1, h2⟩ := h
  have grow : ∀ o, w.grownBy (ChangeMaps.setBlock w b o) (some b) := fun o => ⟨rfl, rfl, rfl, by simp [ChangeMaps.setBlock], fun i _ hi => heap_setBlock_other hb _ (fun e => hi (by rw [e]))⟩
  rcases K.find w hkey es.toList hk with ⟨h3, h4⟩ | ⟨j, e0, h3, h4, h5⟩
  · refine ⟨ChangeMaps.setBlock w b (.map (es.push ⟨key, val, c⟩) (c + 1)), ?_, ⟨es.push ⟨key, val, c⟩, c + 1, heap_setBlock_same hb _, by simp; omega, ?_, ?_, ?_, ?_⟩, grow _, by simp [ChangeMaps.setBlock]⟩
    · have : ¬ 9223372036854775807 ≤ es.size := by simp only [maxLen] at hn; omega
      have hlt : es.size < maxLen := by omega
      simp [Instr.mapUpdate, run_underlying ht, MapKept.run_getObj_map hb, K.check w false hkey, h3, MapKept.run_setObj_map _ hb, Result.andThen, ChangeMaps.setBlock]
    · intro x hx
      simp only [Array.toList_push, List.mem_append, List.mem_singleton] at hx
      rcases hx with hx | rfl
      · exact hk x hx
      · exact ⟨_, hkey⟩
    · rw [Array.toList_push, List.pairwise_append]
      refine ⟨hd, by simp, fun x hx y hy => ?_⟩
      simp only [List.mem_singleton] at hy
      subst hy
      exact h4 x hx
    · intro x hx
      simp only [Array.toList_push, List.mem_append, List.mem_singleton] at hx
      rcases hx with hx | rfl
      · rw [upd_other _ (h4 x hx)]
        exact h1 x hx
      · exact upd_same _ _ _
    · intro y v hy
      by_cases e : y = key
      · subst e
        exact ⟨⟨y, val, c⟩, by simp, rfl⟩
      · rw [upd_other _ e] at hy
        obtain ⟨x, hx, hxk⟩ := h2 y v hy
        exact ⟨x, by simp [Array.toList_push]; simpa using Or.inl hx, hxk⟩
  · have hj : es[j]? = some e0 := by simpa using h4
    have hjl : j < es.toList.length := (List.getElem?_eq_some_iff.1 h4).1
    have hlist : (es.modify j (fun e' => { e' with key := key, val := val })).toList = es.toList.set j { e0 with key := key, val := val } := by rw [Array.toList_modify, ChangeMaps.modify_eq_set _ _ _ _ h4]
    have hj0 : es.toList[j]'hjl = e0 := (List.getElem?_eq_some_iff.1 h4).2
    have who : ∀ x ∈ es.toList.set j { e0 with key := key, val := val }, x = { e0 with key := key, val := val } ∨ (x ∈ es.toList ∧ x.key ≠ key) := by
      intro x hx
      obtain ⟨i, hi, ex⟩ := List.getElem_of_mem hx
      rw [List.getElem_set] at ex
      split at ex
      · exact Or.inl ex.symm
      · rename_i hne
        have hi' : i < es.toList.length := by simpa using hi
        refine Or.inr ⟨ex ▸ List.getElem_mem hi', ?_⟩
        rw [← h5, ← hj0, ← ex]
        rcases Nat.lt_or_gt_of_ne hne with h | h
        · exact fun e => (List.pairwise_iff_getElem.1 hd j i hjl hi' h) e.symm
        · exact List.pairwise_iff_getElem.1 hd i j hi' hjl h
    refine ⟨ChangeMaps.setBlock w b (.map (es.modify j (fun e' => { e' with key := key, val := val })) c), ?_, ⟨_, c, heap_setBlock_same hb _, by simp; omega, ?_, ?_, ?_, ?_⟩, grow _, by simp [ChangeMaps.setBlock]⟩
    · simp [Instr.mapUpdate, run_underlying ht, MapKept.run_getObj_map hb, K.check w false hkey, h3, hj, h5, K.stays w hkey, MapKept.run_setObj_map _ hb, Result.andThen, ChangeMaps.setBlock]
    · intro x hx
      rw [hlist] at hx
      rcases who x hx with rfl | ⟨hx', _⟩
      · exact ⟨_, hkey⟩
      · exact hk x hx'
    · rw [hlist, ← List.pairwise_map (f := MapEntry.key) (R := fun a b => a ≠ b), List.map_set]
      have : (es.toList.map MapEntry.key).set j key = es.toList.map MapEntry.key := by
        apply List.ext_getElem
        · simp
        · intro i h1' h2'
          rw [List.getElem_set]
          split
          · rename_i e
            subst e
            simp only [List.getElem_map]
            rw [hj0, h5]
          · rfl
      rw [this, List.pairwise_map]
      exact hd
    · intro x hx
      rw [hlist] at hx
      rcases who x hx with rfl | ⟨hx', hne⟩
      · exact upd_same _ _ _
      · rw [upd_other _ hne]
        exact h1 x hx'
    · intro y v hy
      rw [hlist]
      have hjs : j < (es.toList.set j { e0 with key := key, val := val }).length := by simpa using hjl
      by_cases e : y = key
      · subst e
        exact ⟨{ e0 with key := y, val := val }, List.mem_iff_getElem.2 ⟨j, hjs, by simp⟩, rfl⟩
      · rw [upd_other _ e] at hy
        obtain ⟨x, hx, hxk⟩ := h2 y v hy
        obtain ⟨i, hi, ex⟩ := List.getElem_of_mem hx
        have hij : j ≠ i := by
          intro e'
          subst e'
          rw [hj0] at ex
          subst ex
          exact e (hxk.symm.trans h5)
        exact ⟨x, List.mem_iff_getElem.2 ⟨i, by simpa using hi, by rw [List.getElem_set_ne hij]; exact ex⟩, hxk⟩
end Go.Proofs.YtdpobhcpmpfioaaDoor

import Derived.Test.YtdpobhcpmpfioaaDoorM19
import Derived.Test.YtdpobhcpmpfioaaDoorM20
set_option linter.all false
set_option linter.unusedVariables false
set_option linter.unusedSimpArgs false
/-! slices.Compact at IDs. -/
namespace Go.Proofs.YtdpobhcpmpfioaaDoor
open Go.RowKit

/-- of neighbours that are alike one stays: the first m -/
def cptN (l : List ID) : Nat → List ID
  | 0 => []
  | m + 1 => if m ≠ 0 ∧ l[m]? = l[m - 1]? then cptN l m else cptN l m ++ (l[m]?).toList
theorem cptN_same (l : List ID) (m : Nat) (h : m ≠ 0) (he : l[m]? = l[m - 1]?) : cptN l (m + 1) = cptN l m := by simp only [cptN]; rw [if_pos ⟨h, he⟩]
theorem cptN_diff (l : List ID) (m : Nat) (hm : m < l.length) (he : m = 0 ∨ l[m]? ≠ l[m - 1]?) : cptN l (m + 1) = cptN l m ++ [l[m]] := by
  simp only [cptN]
  rw [if_neg (by rintro ⟨h1, h2⟩; rcases he with h | h; exact h1 h; exact h h2), List.getElem?_eq_getElem hm]
  rfl
theorem cptN_all (l : List ID) : ∀ m, m ≤ l.length → (∀ i, 1 ≤ i → i < m → l[i]? ≠ l[i - 1]?) → cptN l m = l.take m
  | 0, _, _ => by simp [cptN]
  | m + 1, hm, h => by
    have ih := cptN_all l m (by omega) (fun i h1 h2 => h i h1 (by omega))
    rw [cptN_diff l m (by omega) (by by_cases h0 : m = 0; exact .inl h0; exact .inr (h m (by omega) (by omega))), ih]
    rw [List.take_succ_eq_append_getElem (by omega)]
theorem cptN_len (l : List ID) : ∀ m, (cptN l m).length ≤ m
  | 0 => by simp [cptN]
  | m + 1 => by
    have ih := cptN_len l m
    simp only [cptN]
    split
    · omega
    · rw [List.length_append]
      have : (l[m]?).toList.length ≤ 1 := by cases l[m]? <;> simp
      omega
theorem cptN_mem (l : List ID) : ∀ m, m ≤ l.length → ∀ x, x ∈ cptN l m ↔ x ∈ l.take m
  | 0, _, x => by simp [cptN]
  | m + 1, hm, x => by
    have ih := cptN_mem l m (by omega) x
    rw [List.take_succ_eq_append_getElem (by omega), List.mem_append, ← ih]
    by_cases h : m ≠ 0 ∧ l[m]? = l[m - 1]?
    · rw [cptN_same l m h.1 h.2]
      constructor
      · exact .inl
      · rintro (h' | h')
        · exact h'
        · have hx : x = l[m] := by simpa using h'
          rw [ih, hx]
          have h2 := h.2
          rw [List.getElem?_eq_getElem (by omega), List.getElem?_eq_getElem (by omega)] at h2
          rw [Option.some.inj h2]
          exact List.mem_take_iff_getElem.2 ⟨m - 1, by omega, rfl⟩
    · rw [cptN_diff l m (by omega) (by by_cases h0 : m = 0; exact .inl h0; exact .inr (fun e => h ⟨h0, e⟩)), List.mem_append]
theorem flat_set (x : ID) (rest : List Value) : ∀ (ys : List ID) (k : Nat), k < ys.length →
    (ys.flatMap idc ++ rest).take (k * 32) ++ idc x ++ (ys.flatMap idc ++ rest).drop (k * 32 + (idc x).length) = (ys.set k x).flatMap idc ++ rest
  | y :: r, 0, _ => by simp [List.drop_append]
  | y :: r, k + 1, h => by
    have ih := flat_set x rest r k (by simpa using h)
    have h1 : (k + 1) * 32 = (idc y).length + k * 32 := by rw [idc_length]; omega
    simp only [List.flatMap_cons, List.set_cons_succ, List.append_assoc]
    rw [h1, List.take_length_add_append, Nat.add_assoc, List.drop_length_add_append]
    simp only [List.append_assoc] at ih ⊢
    rw [ih]
theorem flat_cut (rest : List Value) : ∀ (ys : List ID) (k : Nat), k ≤ ys.length → (ys.flatMap idc ++ rest).take (k * 32) = (ys.take k).flatMap idc
  | _, 0, _ => by simp
  | y :: r, k + 1, h => by
    have ih := flat_cut rest r k (by simpa using h)
    have h1 : (k + 1) * 32 = (idc y).length + k * 32 := by rw [idc_length]; omega
    simp only [List.flatMap_cons, List.take_succ_cons, List.append_assoc]
    rw [h1, List.take_length_add_append, ih]
theorem flat_at (ys : List ID) (rest : List Value) (i : Nat) (x : ID) (h : ys[i]? = some x) : ∀ j u, (idc x)[j]? = some u → (ys.flatMap idc ++ rest)[i * 32 + j]? = some u := by
  intro j u hu
  have := flatMap_get idc_length ys i x h j u hu
  rw [List.getElem?_append_left (List.getElem?_eq_some_iff.1 this).1]
  exact this
theorem flat_len (ys : List ID) : (ys.flatMap idc).length = ys.length * 32 := by
  induction ys with
  | nil => rfl
  | cons y r ih => simp [ih]; omega
theorem run_sub1 (x y : Operand) (k : Nat) (h : 1 ≤ k) (hk : k ≤ 1000000) (w : World) : (do eqGuard .sub 3 x y (.int .i64 k) (.int .i64 1); binOp .sub 3 (.int .i64 k) (.int .i64 1) : Sem Value).run Tryd.prog w = .ok (.int .i64 ((k - 1 : Nat) : Int)) w := by
  have hw : IntKind.i64.wrap ((k : Int) - 1) = ((k - 1 : Nat) : Int) := by rw [IntKind.wrap_i64]; omega
  simp [eqGuard, go_sem, hw]
theorem run_clear (w : World) (g off m c : Nat) (cs : List Value) (hb : HB w g 24 cs) (hm : 0 < m) (hl : off + m * 32 ≤ cs.length) (ty : TypeId) :
    ∃ ts : List Value, ts.length = cs.length ∧ ts.take off = cs.take off ∧ (Builtin.clear_ #[51] ty #[.slice (some ⟨g, off, none⟩) m c]).run Tryd.prog w = .ok (.tuple #[]) (w.setRow g ts.toArray) := by
  have hzl : (Builtin.zeroCells (Value.cells zId) m).toList.length = m * 32 := by
    rw [Array.length_toList, size_zeroCells]
    rfl
  have h1 : ∀ v ∈ (Builtin.zeroCells (Value.cells zId) m).toList, v.oneCell' = true := by
    intro v hv
    unfold Builtin.zeroCells at hv
    rw [Array.toList_map] at hv
    obtain ⟨i, _, rfl⟩ := List.mem_map.1 hv
    have hs : (Value.cells zId).size = 32 := rfl
    have hj : i % 32 < 32 := Nat.mod_lt _ (by decide)
    rw [hs]
    have : (Value.cells zId)[i % 32]! = Value.int .u8 0 := by
      show ((List.replicate 32 (Value.int .u8 0)).toArray)[i % 32]! = Value.int .u8 0
      rw [getElem!_pos _ _ (by rw [List.size_toArray, List.length_replicate]; exact hj), List.getElem_toArray, List.getElem_replicate]
    rw [this]
    rfl
  have hr := run_storeCells_at (P := Tryd.prog) g off 24 (Builtin.zeroCells (Value.cells zId) m).toList 0 cs.toArray w hb.hp (by rw [hzl]; simpa using hl) h1
  simp only [Nat.add_zero] at hr
  refine ⟨cs.take off ++ (Builtin.zeroCells (Value.cells zId) m).toList ++ cs.drop (off + (Builtin.zeroCells (Value.cells zId) m).toList.length), ?_, ?_, ?_⟩
  · simp only [List.length_append, List.length_take, List.length_drop, hzl]
    omega
  · rw [List.append_assoc]
    exact List.take_left' (by rw [List.length_take]; omega)
  · have hz := zvId w
    cases m with
    | zero => omega
    | succ m =>
      simp only [Builtin.clear_, run_underlying Tryd.underlying51, Sem.run_bind, Result.andThen_ok, List.getElem?_toArray, List.getElem?_cons_zero, hz, hr, Sem.run_pure]
end Go.Proofs.YtdpobhcpmpfioaaDoor

namespace Go.Proofs.YtdpobhcpmpfioaaDoor
open Go.RowKit

theorem cptN_id (l : List ID) (k m : Nat) (h : ∀ i, 1 ≤ i → i < k → l[i]? ≠ l[i - 1]?) (hk : k ≤ l.length) : (cptN l k).length = k := by
  rw [cptN_all l k hk h, List.length_take]; omega
set_option maxHeartbeats 8000000 in
set_option maxRecDepth 100000 in
theorem Compact_ok (base g cap : Nat) (l : List ID) (rest : List Value) (w : World) (hb : HB w g 24 (l.flatMap idc ++ rest)) (hbase : base ≤ g) (hn : l.length ≤ cap) (hc : cap ≤ 9223372036854775807) (hl : l.length ≤ 100000) (hok : ∀ x ∈ l, IdOk x) :
    Calls Tryd.prog 49 #[.slice (some ⟨g, 0, none⟩) l.length cap] w fun e w' => ∃ k, e = .returned (.slice (some ⟨g, 0, none⟩) k cap) ∧ k = (cptN l l.length).length ∧ (∃ cs, HB w' g 24 cs ∧ cs.take (k * 32) = (cptN l l.length).flatMap idc) ∧ Below base w w' := by
  have HOK := Lib.hid hok
  clear hok
  by_cases hlt2 : l.length < 2
  · have hcp : cptN l l.length = l := by
      rw [cptN_all l l.length (Nat.le_refl _) (fun i h1 h2 => by omega), List.take_length]
    have hfc := flat_cut rest l l.length (Nat.le_refl _)
    rw [List.take_length] at hfc
    rw [hcp]
    generalize hln : l.length = n at *
    have HLN := Lib.hid hln
    clear hln hcp
    go_enter Tryd.func49, Tryd.ntmps49
    go_wp2_with fail
    go_ret
    exact ⟨n, rfl, rfl, ⟨_, hb, hfc⟩, Below.refl _ _⟩
  go_enter Tryd.func49, Tryd.ntmps49
  go_wp2_with fail
  go_loopw [3] (fun q wr => ∃ k : Nat, 1 ≤ k ∧ k ≤ l.length ∧ q = .int .i64 k ∧ Hid (∀ i, 1 ≤ i → i < k → l[i]? ≠ l[i - 1]?) ∧ HB wr g 24 (l.flatMap idc ++ rest) ∧ Below w.heap.size w wr) (fun q _ => l.length - (intOf q).toNat)
  case atStart => exact ⟨1, Nat.le_refl _, by omega, rfl, Lib.hid (fun i h1 h2 => by omega), hb, Below.refl _ _⟩
  case round =>
    have hgw := hb.lt
    clear hb
    obtain ⟨k, hk1, hk, rfl, hno, hb, hbel⟩ := hrel
    by_cases hlt : k < l.length
    · have hx1 : l[k]? = some l[k] := List.getElem?_eq_getElem hlt
      have hx2 : l[k - 1]? = some l[k - 1] := List.getElem?_eq_getElem (by omega)
      have ho1 := HOK.out _ (List.getElem_mem hlt)
      have ho2 := HOK.out _ (List.getElem_mem (show k - 1 < l.length by omega))
      have HX1 := Lib.hid hx1
      have HX2 := Lib.hid hx2
      clear hx1 hx2
      generalize l[k] = x at *
      generalize l[k - 1] = y at *
      have heq := eqID x y ho1 ho2
      have hkl : k - 1 < l.length := by omega
      go_wp2_with fail
      refine region_lex (by rfl) (fun w' => HB w' g 24 (l.flatMap idc ++ rest)) [(0, true), (1, true), (2, true), (3, true), (4, true), (5, true), (6, true), (7, true), (8, true), (9, true)] (fun _ _ d _ _ h => by cases d <;> exact h) (by kernel_rfl) (by kernel_rfl) hb.drew ?_
      simp only [pick, List.getElem?_cons_succ, List.getElem?_cons_zero, List.drop_succ_cons, List.drop_zero, List.length_cons, List.length_nil, List.drop_nil]
      have r1 : ∀ w', HB w' g 24 (l.flatMap idc ++ rest) → w'.rangeAt g (k * 32) (idc x) := fun w' h => h.sub (flat_at l rest k x HX1.out)
      have r2 : ∀ w', HB w' g 24 (l.flatMap idc ++ rest) → w'.rangeAt g ((k - 1) * 32) (idc y) := fun w' h => h.sub (flat_at l rest (k - 1) y HX2.out)
      refine lexMove (.tmp 0) (.slice (some ⟨g, 0, none⟩) l.length cap) rfl rfl rfl ?_
      simp only [Act.put, List.setIfInBounds_toArray, List.set_cons_zero, List.set_cons_succ]
      refine lexMove (.tmp 3) (.int .i64 k) rfl rfl rfl ?_
      simp only [Act.put, List.setIfInBounds_toArray, List.set_cons_zero, List.set_cons_succ]
      refine lexIndex 51 24 (.tmp 16) (.tmp 17) g 0 l.length cap k 32 rfl rfl rfl rfl Tryd.underlying51 szID hlt ?_
      simp only [Act.put, List.setIfInBounds_toArray, List.set_cons_zero, List.set_cons_succ, Nat.zero_add]
      refine lexLoad 24 (.tmp 18) g (k * 32) (idc x) _ rfl rfl rfl r1 Tryd.underlying24 rfl (by rw [idc_length]; exact szID) ?_
      simp only [Act.put, List.setIfInBounds_toArray, List.set_cons_zero, List.set_cons_succ]
      refine lexMove (.tmp 0) (.slice (some ⟨g, 0, none⟩) l.length cap) rfl rfl rfl ?_
      simp only [Act.put, List.setIfInBounds_toArray, List.set_cons_zero, List.set_cons_succ]
      refine lexMove (.tmp 3) (.int .i64 k) rfl rfl rfl ?_
      simp only [Act.put, List.setIfInBounds_toArray, List.set_cons_zero, List.set_cons_succ]
      refine lexBin .sub 3 _ (.tmp 21) (.const (.int .i64 1)) _ _ (.int .i64 ((k - 1 : Nat) : Int)) rfl rfl rfl rfl (fun w => run_sub1 _ _ k hk1 (by omega) w) ?_
      simp only [Act.put, List.setIfInBounds_toArray, List.set_cons_zero, List.set_cons_succ]
      refine lexIndex 51 24 (.tmp 20) (.tmp 22) g 0 l.length cap (k - 1) 32 rfl rfl rfl rfl Tryd.underlying51 szID hkl ?_
      simp only [Act.put, List.setIfInBounds_toArray, List.set_cons_zero, List.set_cons_succ, Nat.zero_add]
      refine lexLoad 24 (.tmp 23) g ((k - 1) * 32) (idc y) _ rfl rfl rfl r2 Tryd.underlying24 rfl (by rw [idc_length]; exact szID) ?_
      simp only [Act.put, List.setIfInBounds_toArray, List.set_cons_zero, List.set_cons_succ]
      refine lexBin .eql 24 _ (.tmp 19) (.tmp 24) _ _ (.bool (decide (x = y))) rfl rfl rfl rfl (fun w => run_eqAgg _ _ egID (heq w)) ?_
      simp only [Act.put, List.setIfInBounds_toArray, List.set_cons_zero, List.set_cons_succ]
      simp only [wpLex, wpList]
      have hbd := hb.drew
      have hbeld := hbel.drew
      clear hb hbel r1 r2
      by_cases hxy : x = y
      · have hd : decide (x = y) = true := decide_eq_true hxy
        have hadj : k ≠ 0 ∧ l[k]? = l[k - 1]? := ⟨by omega, by rw [HX1.out, HX2.out, hxy]⟩
        have hC : cptN l (k + 1) = cptN l k := cptN_same l k hadj.1 hadj.2
        have hA : cptN l k = l.take k := cptN_all l k (by omega) hno.out
        have HC := Lib.hid hC
        have HA := Lib.hid hA
        rw [hd]
        clear hadj hd hC hA hxy heq
        generalize hww : wr.drew = w1 at *
        clear hww
        go_wp2_with fail
        go_loopw [3, 5] (fun q q5 wx => ∃ (m k2 : Nat) (ys : List ID) (rs : List Value), q = .int .i64 m ∧ q5 = .int .i64 k2 ∧ 1 ≤ k2 ∧ k2 ≤ l.length - k ∧ HB wx g 24 (ys.flatMap idc ++ rs) ∧ ys.length = l.length ∧ Hid (ys.take m = cptN l (k + k2)) ∧ Hid (m = (cptN l (k + k2)).length) ∧ m ≤ k + k2 - 1 ∧ Hid (∀ i, k + k2 - 1 ≤ i → ys[i]? = l[i]?) ∧ Below base w wx) (fun _ q5 _ => l.length - k - (intOf q5).toNat)
        case atStart =>
          refine ⟨k, 1, l, rest, rfl, rfl, Nat.le_refl _, by omega, hbd, rfl, Lib.hid (by rw [HC.out, HA.out]), Lib.hid (by rw [HC.out, HA.out, List.length_take]; omega), by omega, Lib.hid (fun i _ => rfl), hbeld.mono (by omega)⟩
        case round =>
          clear hbd
          obtain ⟨m, k2, ys, rs, rfl, rfl, h21, h22, hb, hyl, hyt, hm, hmk, hyr, hbel⟩ := hrel
          by_cases hlk : k2 < l.length - k
          · have hp1 : k + k2 < l.length := by omega
            have hx1 : l[k + k2]? = some l[k + k2] := List.getElem?_eq_getElem hp1
            have hx2 : l[k + k2 - 1]? = some l[k + k2 - 1] := List.getElem?_eq_getElem (by omega)
            have ho1 := HOK.out _ (List.getElem_mem hp1)
            have ho2 := HOK.out _ (List.getElem_mem (show k + k2 - 1 < l.length by omega))
            have HX1 := Lib.hid hx1
            have HX2 := Lib.hid hx2
            have HY1 : Hid (ys[k + k2]? = some l[k + k2]) := Lib.hid (by rw [hyr.out _ (by omega)]; exact hx1)
            have HY2 : Hid (ys[k + k2 - 1]? = some l[k + k2 - 1]) := Lib.hid (by rw [hyr.out _ (by omega)]; exact hx2)
            have hcd := cptN_diff l (k + k2) hp1
            have hcs := cptN_same l (k + k2) (by omega)
            have HCD := Lib.hid hcd
            have HCS := Lib.hid hcs
            clear hx1 hx2 hcd hcs
            generalize l[k + k2] = x at *
            generalize l[k + k2 - 1] = y at *
            have heq := eqID x y ho1 ho2
            have hkl : k2 - 1 < l.length - k := by omega
            have ea : k * 32 + k2 * 32 = (k + k2) * 32 := by omega
            have eb : k * 32 + (k2 - 1) * 32 = (k + k2 - 1) * 32 := by omega
            go_wp2_with fail
            refine region_lex (by rfl) (fun w' => HB w' g 24 (ys.flatMap idc ++ rs)) [(0, true), (1, true), (2, true), (3, true), (4, true), (5, true), (6, true), (7, true), (8, true), (9, true)] (fun _ _ d _ _ h => by cases d <;> exact h) (by kernel_rfl) (by kernel_rfl) hb.drew ?_
            simp only [pick, List.getElem?_cons_succ, List.getElem?_cons_zero, List.drop_succ_cons, List.drop_zero, List.length_cons, List.length_nil, List.drop_nil]
            have r1 : ∀ w', HB w' g 24 (ys.flatMap idc ++ rs) → w'.rangeAt g (k * 32 + k2 * 32) (idc x) := fun w' h => h.sub (fun j u hu => by rw [ea]; exact flat_at ys rs (k + k2) x HY1.out j u hu)
            have r2 : ∀ w', HB w' g 24 (ys.flatMap idc ++ rs) → w'.rangeAt g (k * 32 + (k2 - 1) * 32) (idc y) := fun w' h => h.sub (fun j u hu => by rw [eb]; exact flat_at ys rs (k + k2 - 1) y HY2.out j u hu)
            refine lexMove (.tmp 4) (.slice (some ⟨g, k * 32, none⟩) (l.length - k) (cap - k)) rfl rfl rfl ?_
            simp only [Act.put, List.setIfInBounds_toArray, List.set_cons_zero, List.set_cons_succ]
            refine lexMove (.tmp 5) (.int .i64 k2) rfl rfl rfl ?_
            simp only [Act.put, List.setIfInBounds_toArray, List.set_cons_zero, List.set_cons_succ]
            refine lexIndex 51 24 (.tmp 35) (.tmp 36) g (k * 32) (l.length - k) (cap - k) k2 32 rfl rfl rfl rfl Tryd.underlying51 szID hlk ?_
            simp only [Act.put, List.setIfInBounds_toArray, List.set_cons_zero, List.set_cons_succ]
            refine lexLoad 24 (.tmp 37) g (k * 32 + k2 * 32) (idc x) _ rfl rfl rfl r1 Tryd.underlying24 rfl (by rw [idc_length]; exact szID) ?_
            simp only [Act.put, List.setIfInBounds_toArray, List.set_cons_zero, List.set_cons_succ]
            refine lexMove (.tmp 4) (.slice (some ⟨g, k * 32, none⟩) (l.length - k) (cap - k)) rfl rfl rfl ?_
            simp only [Act.put, List.setIfInBounds_toArray, List.set_cons_zero, List.set_cons_succ]
            refine lexMove (.tmp 5) (.int .i64 k2) rfl rfl rfl ?_
            simp only [Act.put, List.setIfInBounds_toArray, List.set_cons_zero, List.set_cons_succ]
            refine lexBin .sub 3 _ (.tmp 40) (.const (.int .i64 1)) _ _ (.int .i64 ((k2 - 1 : Nat) : Int)) rfl rfl rfl rfl (fun w => run_sub1 _ _ k2 h21 (by omega) w) ?_
            simp only [Act.put, List.setIfInBounds_toArray, List.set_cons_zero, List.set_cons_succ]
            refine lexIndex 51 24 (.tmp 39) (.tmp 41) g (k * 32) (l.length - k) (cap - k) (k2 - 1) 32 rfl rfl rfl rfl Tryd.underlying51 szID hkl ?_
            simp only [Act.put, List.setIfInBounds_toArray, List.set_cons_zero, List.set_cons_succ]
            refine lexLoad 24 (.tmp 42) g (k * 32 + (k2 - 1) * 32) (idc y) _ rfl rfl rfl r2 Tryd.underlying24 rfl (by rw [idc_length]; exact szID) ?_
            simp only [Act.put, List.setIfInBounds_toArray, List.set_cons_zero, List.set_cons_succ]
            refine lexBin .neq 24 _ (.tmp 38) (.tmp 43) _ _ (.bool (!decide (x = y))) rfl rfl rfl rfl (fun w => run_neqAgg _ _ egID (heq w)) ?_
            simp only [Act.put, List.setIfInBounds_toArray, List.set_cons_zero, List.set_cons_succ]
            simp only [wpLex, wpList]
            have hbd := hb.drew
            have hbeld := hbel.drew
            have r1d := r1 _ hbd
            clear hb hbel r1 r2 ea eb
            by_cases hxy : x = y
            · have hd : (!decide (x = y)) = false := by rw [decide_eq_true hxy]; rfl
              have hC : cptN l (k + k2 + 1) = cptN l (k + k2) := HCS.out (by rw [HX1.out, HX2.out, hxy])
              have HC2 := Lib.hid hC
              rw [hd]
              clear hd hC hxy heq HCS HCD
              go_wp2_with fail
              go_roundw
              case rel => exact ⟨m, k2 + 1, ys, rs, rfl, by go_num, by omega, by omega, hbd, hyl, Lib.hid (by rw [← Nat.add_assoc, HC2.out]; exact hyt.out), Lib.hid (by rw [← Nat.add_assoc, HC2.out]; exact hm.out), by omega, Lib.hid (fun i hi => hyr.out i (by omega)), hbeld⟩
              case measure => simp [intOf]; omega
            · have hd : (!decide (x = y)) = true := by rw [decide_eq_false hxy]; rfl
              have hC : cptN l (k + k2 + 1) = cptN l (k + k2) ++ [x] := HCD.out (.inr (by rw [HX1.out, HX2.out]; exact fun e => hxy (Option.some.inj e)))
              have HC2 := Lib.hid hC
              rw [hd]
              have hmy : m < ys.length := by omega
              have hmn : m < l.length := by omega
              have hset := flat_set x rs ys m hmy
              have hb2 := hbd.setRow ((ys.flatMap idc ++ rs).take (m * 32) ++ idc x ++ (ys.flatMap idc ++ rs).drop (m * 32 + (idc x).length))
              rw [hset] at hb2
              have hfl := flat_len ys
              have hle : m * 32 + (idc x).length ≤ (ys.flatMap idc ++ rs).length := by rw [List.length_append, hfl, idc_length]; omega
              have HSET := Lib.hid hset
              clear hd hC hxy heq HCS HCD hset hfl
              have hm32 : (m : Int) < l.length := by omega
              go_wp2_with (first
                | (with_reducible refine wpList_at 50 ?_; go_loud (refine ldID (.tmp 49) _ _ x rfl rfl rfl r1d ?_))
                | (with_reducible refine wpList_atS 51 ?_; go_loud (refine wpList_store_sub rfl 24 (.tmp 51) (.tmp 50) rfl g (m * 32) _ _ (idc x) (.agg (idc x).toArray) rfl rfl rfl hbd (by rw [idc_length]; exact szID) hle (idc_one x) ?_); rw [HSET.out]; simp only [Act.put])
                | fail)
              go_roundw
              case rel =>
                refine ⟨m + 1, k2 + 1, ys.set m x, rs, by go_num, by go_num, by omega, by omega, hb2, by simp [hyl], Lib.hid ?_, Lib.hid ?_, by omega, Lib.hid (fun i hi => ?_), Below.setRow hbeld hbase _⟩
                · rw [← Nat.add_assoc, HC2.out, ← hyt.out, List.take_succ_eq_append_getElem (by simpa using hmy)]
                  have hts : (ys.set m x).take m = ys.take m := by
                    apply List.ext_getElem?
                    intro i
                    rw [List.getElem?_take, List.getElem?_take]
                    split
                    · rw [List.getElem?_set_ne (by omega)]
                    · rfl
                  rw [hts]
                  simp
                · rw [← Nat.add_assoc, HC2.out, List.length_append, ← hm.out]; rfl
                · rw [List.getElem?_set_ne (by omega)]
                  exact hyr.out i (by omega)
              case measure => simp [intOf]; omega
          · have hk2 : k + k2 = l.length := by omega
            have hyt2 := hyt.out
            have hm2 := hm.out
            rw [hk2] at hyt2 hm2
            have hfl := flat_len ys
            have hmn : m < l.length := by omega
            have hcl : ∀ ty, ∃ ts : List Value, ts.length = (ys.flatMap idc ++ rs).length ∧ ts.take (m * 32) = (ys.flatMap idc ++ rs).take (m * 32) ∧ (Builtin.clear_ #[51] ty #[.slice (some ⟨g, m * 32, none⟩) (l.length - m) (cap - m)]).run Tryd.prog wr = .ok (.tuple #[]) (wr.setRow g ts.toArray) :=
              fun ty => run_clear wr g (m * 32) (l.length - m) (cap - m) _ hb (by omega) (by rw [List.length_append, hfl, hyl, ← Nat.add_mul]; have : m + (l.length - m) = l.length := by omega
                                                                                             rw [this]; omega) ty
            have hfc := flat_cut rs ys m (by omega)
            rw [hyt2] at hfc
            have HFC := Lib.hid hfc
            have HM2 := Lib.hid hm2
            have HCL := Lib.hid hcl
            clear hyt2 hm2 hfc hcl hm hfl hyt hyr
            obtain ⟨ts, ht1, ht2, ht3⟩ := HCL.out 0
            have hbF := hb.setRow ts
            have HT2 := Lib.hid ht2
            clear ht1 ht2
            go_wp2_with fail
            go_ret
            exact ⟨m, rfl, HM2.out, ⟨ts, hbF, by rw [HT2.out]; exact HFC.out⟩, Below.setRow hbel hbase _⟩
      · have hd : decide (x = y) = false := decide_eq_false hxy
        have hne : l[k]? ≠ l[k - 1]? := by rw [HX1.out, HX2.out]; exact fun e => hxy (Option.some.inj e)
        have HNE := Lib.hid hne
        rw [hd]
        clear hd hne hxy heq
        go_wp2_with fail
        go_roundw
        case rel =>
          refine ⟨k + 1, by omega, by omega, by go_num, Lib.hid (fun i h1 h2 => ?_), hbd, hbeld⟩
          by_cases hi : i = k
          · subst hi; exact HNE.out
          · exact hno.out i h1 (by omega)
        case measure => simp [intOf]; omega
    · obtain rfl : k = l.length := by omega
      have hcp : cptN l l.length = l := by
        rw [cptN_all l l.length (Nat.le_refl _) hno.out, List.take_length]
      have hfc := flat_cut rest l l.length (Nat.le_refl _)
      rw [List.take_length] at hfc
      have HCP := Lib.hid hcp
      have HFC := Lib.hid hfc
      clear hcp hfc
      go_wp2_with fail
      go_ret
      exact ⟨l.length, rfl, by rw [HCP.out], ⟨_, hb, by rw [HCP.out]; exact HFC.out⟩, hbel.mono (by omega)⟩
end Go.Proofs.YtdpobhcpmpfioaaDoor

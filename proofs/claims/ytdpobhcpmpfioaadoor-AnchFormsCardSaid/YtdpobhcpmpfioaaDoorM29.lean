import Derived.Test.YtdpobhcpmpfioaaDoorM23
import Derived.Test.YtdpobhcpmpfioaaDoorM24
import Derived.Test.YtdpobhcpmpfioaaDoorM25
import Derived.Test.YtdpobhcpmpfioaaDoorM26
import Derived.Test.YtdpobhcpmpfioaaDoorM28
set_option linter.all false
set_option linter.unusedVariables false
set_option linter.unusedSimpArgs false
namespace Go.Proofs.YtdpobhcpmpfioaaDoor
open Go.RowKit
theorem Ts.take {w : World} {base T k m n c : Nat} {a : Option Addr} {xs : List Value} (h : Ts w base T k (.slice a m c) m xs) (hn : n ≤ m) : Ts w base T k (.slice a n c) n (xs.take (n * k)) := by
  obtain ⟨hl, ⟨e, rfl⟩ | ⟨g, cap, cur, e, hb, hg, h1, h2, h4⟩⟩ := h
  · obtain ⟨rfl, _, rfl⟩ := by simpa using e
    obtain rfl : n = 0 := by omega
    exact ⟨by simp, .inl ⟨rfl, rfl⟩⟩
  · obtain ⟨rfl, rfl⟩ := by simpa using e
    have hnk : n * k ≤ m * k := Nat.mul_le_mul_right k hn
    refine ⟨by rw [List.length_take, hl]; omega, .inr ⟨g, c, cur, rfl, hb, hg, by omega, h2, ?_⟩⟩
    rw [← h4, List.take_take, Nat.min_eq_left hnk]
theorem flatten_take2 : ∀ (cs : List (List Value)) (n : Nat), (∀ c ∈ cs, c.length = 2) → (cs.take n).flatten = cs.flatten.take (n * 2)
  | [], n, _ => by simp
  | c :: r, 0, _ => by simp
  | c :: r, n + 1, h => by
    have h1 : (n + 1) * 2 = c.length + n * 2 := by rw [h c (by simp)]; omega
    rw [List.take_succ_cons, List.flatten_cons, List.flatten_cons, h1, List.take_length_add_append, flatten_take2 r n (fun c hc => h c (by simp [hc]))]
theorem All2.take {α β : Type} {R : α → β → Prop} {l : List α} {m : List β} (h : All2 R l m) : ∀ n, All2 R (l.take n) (m.take n) := by
  induction h with
  | nil => intro n; simp; exact .nil
  | cons h _ ih =>
    intro n
    cases n with
    | zero => exact .nil
    | succ n => exact .cons h (ih n)
theorem TOuts.take {w : World} {base n c m : Nat} {a : Option Addr} {l : List TOut} (h : TOuts w base (.slice a m c) l) (hm : m = l.length) (hn : n ≤ l.length) : TOuts w base (.slice a n c) (l.take n) := by
  obtain ⟨cs, h1, h2, h3⟩ := h
  subst hm
  refine ⟨cs.take n, ?_, fun c hc => h2 c (List.mem_of_mem_take hc), h3.take n⟩
  rw [flatten_take2 cs n h2, List.length_take, Nat.min_eq_left hn]
  exact h1.take hn
theorem ts_ne_hb {w : World} {base b n size : Nat} {T T' : TypeId} {v : Value} {xs cs : List Value} (h : Ts w base T size v n xs) (h' : HB w b T' cs) (hT : T ≠ T') : v.ownBlock ≠ some b := by
  obtain ⟨_, ⟨rfl, _⟩ | ⟨g, cap, cur, rfl, _, hg, _⟩⟩ := h
  · simp [Value.ownBlock]
  · intro e
    have : g = b := by simpa [Value.ownBlock] using e
    subst this
    rw [h'.hp] at hg
    simp at hg
    exact hT hg.2.symm
theorem outsN_len (r n : Nat) : (outsN r n).length = n := by simp [outsN]
theorem outsN_os (r n : Nat) : ∀ x ∈ outsN r n, x.script.length ≤ 500 := by
  intro x hx
  obtain ⟨i, _, rfl⟩ := List.mem_map.1 hx
  simp [oO]
theorem zid_ok : IdOk zid := by
  intro b hb
  have := (List.mem_replicate.1 hb).2
  omega
theorem w32_3 : W32 3 := ⟨by decide, by decide⟩
theorem w32_0 : W32 0 := ⟨by decide, by decide⟩
theorem aTx_wf (r : Nat) : TxWf (aTx r) where
  i1 := by simp [aTx]
  i2 := by simp [aTx]
  o1 := by simp [aTx, outsN_len]
  o2 := by simp [aTx, outsN_len]
  v := w32_3
  l := w32_0
  iv := by
    intro x hx
    obtain rfl : x = ⟨zid, 1, 0⟩ := by simpa [aTx] using hx
    exact ⟨⟨by decide, by decide⟩, ⟨by decide, by decide⟩⟩
  os := outsN_os r 3
theorem selN_len (s n : Nat) : (selN s n).length ≤ n := by
  unfold selN
  rw [List.length_map]
  exact Nat.le_trans (List.length_filter_le _ _) (by simp)
theorem selN_in (s n : Nat) : ∀ i ∈ selN s n, 0 ≤ i ∧ i < n := by
  intro i hi
  obtain ⟨k, hk, rfl⟩ := List.mem_map.1 hi
  have := List.mem_range.1 (List.mem_filter.1 hk).1
  omega
theorem bTx_wf (r s : Nat) (x : ID) : TxWf (bTx r s x) where
  i1 := by simp [bTx, bIns]
  i2 := by have := selN_len s 3; simp [bTx, bIns]; omega
  o1 := by simp [bTx, outsN_len]
  o2 := by simp [bTx, outsN_len]
  v := w32_3
  l := w32_0
  iv := by
    intro y hy
    rcases List.mem_cons.1 hy with rfl | hy
    · exact ⟨⟨by decide, by decide⟩, ⟨by decide, by decide⟩⟩
    · obtain ⟨i, hi, rfl⟩ := List.mem_map.1 hy
      have := selN_in s 3 i hi
      exact ⟨⟨this.1, by show i < _; omega⟩, w32_0⟩
  os := outsN_os r 1
theorem aEnt_wf (r : Nat) (hr : r < 8) : EntWf (entry (aTx r) 0 0) where
  t := aTx_wf r
  d := by show (dusts (aTx r)).length ≤ 1000; rw [dusts_a r hr]; have := selN_len r 3; omega
  id := txid_ok _
  iv := by
    intro x hx
    obtain rfl : x = ⟨zid, 1, 0⟩ := by simpa [entry, aTx] using hx
    exact zid_ok
theorem bIns_succ (x : ID) (s n : Nat) : bIns x s (n + 1) = bIns x s n ++ (if bitB s n then [⟨x, n, 0⟩] else []) := by
  unfold bIns
  rw [selN_succ, List.map_append, List.cons_append]
  congr 2
  split <;> rfl
theorem bIns_len (x : ID) (s n : Nat) : (bIns x s n).length ≤ n + 1 := by have := selN_len s n; simp [bIns]; omega
theorem empty_put (e : Ent) : (⟨[], fun _ => none⟩ : Pool).put e = ⟨[e], fun q => if q ∈ points e.tx then some e.id else none⟩ := by
  rw [put_f]
  · simp [Pool.add]
  · simp [Pool.taken, Pool.find]
end Go.Proofs.YtdpobhcpmpfioaaDoor

namespace Go.Proofs.YtdpobhcpmpfioaaDoor
open Go.RowKit

set_option maxRecDepth 100000 in
theorem run_build_in1 (n : Int) (w : World) : (Instr.build 28 #[(1, .int .u32 n)]).run Tryd.prog w = .ok (.agg (inc ⟨zid, n, 0⟩).toArray) w := by
  show _ = _
  kernel_rfl
theorem run_build_tx1 (n : Int) (a : Option Addr) (m c : Nat) (w : World) : (Instr.build 32 #[(0, .int .u32 n), (1, .slice a m c)]).run Tryd.prog w = .ok (.agg #[.int .u32 n, .slice a m c, .slice none 0 0, .int .u32 0]) w := by
  show _ = _
  kernel_rfl
theorem run_build_out (n : Int) (a : Option Addr) (m c : Nat) (w : World) : (Instr.build 34 #[(0, .int .u64 n), (1, .slice a m c)]).run Tryd.prog w = .ok (.agg #[.int .u64 n, .slice a m c]) w := by
  show _ = _
  kernel_rfl
theorem wpList_slice1 {ops : Array Oper} {rest : List Oper} {Q : Exit → Act → World → Prop} {o : Oper} {a : Act} {w : World} (hg : o.guard = none) (t e : TypeId) (x : Operand) (ho : o.op = .buildSlice t 1 #[(0, x)]) (z : Value) (size bytes : Nat) (ht : Tryd.prog.underlying t = some (.slice e))
    (hinfo : (Tryd.prog.info? e).map (fun i => (i.zero, i.size, i.bytes)) = some (some z, size, bytes)) (hsz : 0 < size) (hsm : size ≤ 1000) (hzs : z.cells.size = size) (new : List Value) (hx : (a.eval x).cells = new.toArray) (hl : new.length = size)
    (h : wpList Tryd.prog ops Q rest (a.put o.dst (.slice (some ⟨w.heap.size, 0, none⟩) 1 1)) (w.alloc (.cells new.toArray e))) : wpList Tryd.prog ops Q (o :: rest) a w :=
  wpList_plain hg fun _ hK => wp_slice1 t e x ho z size bytes ht hinfo hsz hsm hzs new hx hl (hK _ _ h)

theorem Ts.of_hb {w : World} {base g : Nat} {T : TypeId} {cs : List Value} {n k : Nat} (h : HB w g T cs) (hb : base ≤ g) (hl : cs.length = n * k) (hn : n ≤ maxLen) : Ts w base T k (.slice (some ⟨g, 0, none⟩) n n) n cs :=
  ⟨hl, .inr ⟨g, n, _, rfl, hb, h, Nat.le_refl _, hn, by rw [List.toList_toArray]; exact List.take_of_length_le (by omega)⟩⟩
theorem Sl.cells1 {v : Value} (h : Sl v) : v.cells = [v].toArray := by obtain ⟨a, n, c, rfl⟩ := h; rfl
theorem outc_v (s : Value) : List.take 0 (outc (oO 5000) s) ++ [Value.int .u64 293] ++ List.drop (0 + [Value.int .u64 293].length) (outc (oO 5000) s) = outc (oO 293) s := rfl
theorem txc_outs (t : Tx) (i u v : Value) : List.take 2 (txc t i u) ++ [v] ++ List.drop (2 + [v].length) (txc t i u) = txc t i v := rfl
theorem txc_ins (t : Tx) (i u v : Value) : List.take 1 (txc t i u) ++ [v] ++ List.drop (1 + [v].length) (txc t i u) = txc t v u := rfl
theorem outsN_succ (r k : Nat) : outsN r (k + 1) = outsN r k ++ [oO (if bitB r k then 293 else 5000)] := by simp [outsN, List.range_succ]
set_option maxRecDepth 100000 in
theorem run_build_in2 (x : ID) (n : Int) (w : World) : (Instr.build 28 #[(0, .agg (idc x).toArray), (1, .int .u32 n)]).run Tryd.prog w = .ok (.agg (inc ⟨x, n, 0⟩).toArray) w := by
  obtain ⟨l, h⟩ := x
  match l, h with
  | [a0, a1, a2, a3, a4, a5, a6, a7, a8, a9, a10, a11, a12, a13, a14, a15, a16, a17, a18, a19, a20, a21, a22, a23, a24, a25, a26, a27, a28, a29, a30, a31], _ => show _ = _; kernel_rfl
theorem Gs.of_full {w : World} {base T k n : Nat} {a : Option Addr} {xs : List Value} (h : Rd w T k (.slice a n n) n xs) : Gs w base T k (.slice a n n) n xs := .inr ⟨h, a, rfl⟩
def AwakeOk : Prop := ∀ w : World, GL w → Calls Tryd.prog 9 #[] w fun e w' => e = .returned (.bool true) ∧ Below w.heap.size w w'
set_option maxHeartbeats 16000000 in
set_option maxRecDepth 100000 in
theorem Law_of (HAW : AwakeOk) (D s fee : Int) (w : World) (hGL : GL w) :
    Calls Tryd.prog 3 #[.int .i64 D, .int .i64 s, .int .u64 fee] w fun e w' => e = .returned (.bool true) ∧ Below w.heap.size w w' := by
  have hs1 : Sl (.slice (some ⟨w.heap.size, 0, none⟩) 1 1) := ⟨_, _, _, rfl⟩
  have hs2 : Sl (.slice none 0 0) := ⟨_, _, _, rfl⟩
  go_enter Tryd.func3, Tryd.ntmps3
  go_wp2_with (first
    | (with_reducible refine wpList_at 16 ?_; go_loud (refine wpList_buildV rfl 28 _ rfl [(1, .int .u32 1)] rfl _ (run_build_in1 1 w) ?_))
    | (with_reducible refine wpList_at 17 ?_; go_loud (refine wpList_slice1 rfl 29 28 (.tmp 16) rfl zIn 36 96 Tryd.underlying29 infoIn (by decide) (by decide) zcIn (inc ⟨zid, 1, 0⟩) rfl (inc_length _) ?_))
    | (with_reducible refine wpList_at 7 ?_; go_loud (refine asTx (.tmp 18) 7 (aTx 0) (.slice (some ⟨w.heap.size, 0, none⟩) 1 1) (.slice none 0 0) hs1 hs2 rfl rfl rfl rfl rfl rfl rfl rfl ?_))
    | fail)
  have hb0 : Below w.heap.size w ((w.alloc (.cells (inc ⟨zid, 1, 0⟩).toArray 28)).alloc (.cells (txc (aTx 0) (.slice (some ⟨w.heap.size, 0, none⟩) 1 1) (.slice none 0 0)).toArray 32)) := ((Below.refl _ _).alloc (Nat.le_refl _) _).alloc (by simp) _
  have hi0 := Ts.of_hb (base := w.heap.size) (n := 1) (k := 36) ((HB.new w 28 (inc ⟨zid, 1, 0⟩)).alloc (.cells (txc (aTx 0) (.slice (some ⟨w.heap.size, 0, none⟩) 1 1) (.slice none 0 0)).toArray 32)) (Nat.le_refl _) (by simp) (by decide)
  have ht0 := HB.new (w.alloc (.cells (inc ⟨zid, 1, 0⟩).toArray 28)) 32 (txc (aTx 0) (.slice (some ⟨w.heap.size, 0, none⟩) 1 1) (.slice none 0 0))
  have hsz0 : (w.alloc (.cells (inc ⟨zid, 1, 0⟩).toArray 28)).heap.size = w.heap.size + 1 := by simp
  rw [hsz0] at ht0
  change Code.wp _ _ _ _ ((w.alloc (.cells (inc ⟨zid, 1, 0⟩).toArray 28)).alloc (.cells (txc (aTx 0) (.slice (some ⟨w.heap.size, 0, none⟩) 1 1) (.slice none 0 0)).toArray 32))
  generalize (w.alloc (.cells (inc ⟨zid, 1, 0⟩).toArray 28)).alloc (.cells (txc (aTx 0) (.slice (some ⟨w.heap.size, 0, none⟩) 1 1) (.slice none 0 0)).toArray 32) = W1 at *
  clear hsz0 hs1 hs2
  have hi1 : TIns W1 w.heap.size (.slice (some ⟨w.heap.size, 0, none⟩) 1 1) (aTx 0).ins := by simpa [TIns, aTx] using hi0
  clear hi0
  generalize hr : (D % 8).toNat = r
  go_loopw [8] (fun j wr => ∃ (k : Nat) (ov : Value) (cs : List (List Value)), k ≤ 3 ∧ j = .int .i64 k ∧ HB wr (w.heap.size + 1) 32 (txc (aTx 0) (.slice (some ⟨w.heap.size, 0, none⟩) 1 1) ov) ∧ wr.ownsRow w.heap.size 34 2 ov k cs.flatten ∧ (∀ c ∈ cs, c.length = 2) ∧
    All2 (TOutC wr w.heap.size) cs (outsN r k) ∧ TIns wr w.heap.size (.slice (some ⟨w.heap.size, 0, none⟩) 1 1) (aTx 0).ins ∧ Below w.heap.size w wr) (fun j _ => 3 - (intOf j).toNat)
  case atStart => exact ⟨0, _, [], Nat.zero_le _, rfl, ht0, World.ownsRow_nil _ _ _ _, by simp, .nil, hi1, hb0⟩
  case round =>
    clear ht0 hi1 hb0
    obtain ⟨k, ov, cs, hk, rfl, ht, hown, hcl, hA, hTI, hbel⟩ := hrel
    by_cases hlt : k < 3
    · have hsz := hbel.size
      have hbs := HB.new wr 5 [.int .u8 0, .int .u8 20]
      have hbit := bit_of D k hlt
      rw [hr] at hbit
      have hk3 : k = 0 ∨ k = 1 ∨ k = 2 := by omega
      have h293 : ∀ v ∈ [Value.int .u64 293], v.oneCell' = true := by intro v hv; obtain rfl := List.mem_singleton.1 hv; rfl
      cases hbb : bitB r k with
      | true =>
        rw [hbb] at hbit
        have HO : Hid (outsN r (k + 1) = outsN r k ++ [oO 293]) := Lib.hid (by rw [outsN_succ, hbb]; rfl)
        clear hbb hr
        go_wp2_with (first
          | (with_reducible refine wpList_at 24 ?_; go_loud (refine wpList_appZ (.tmp 23) rfl rfl wr.heap.size 0 20 rfl hbs ?_); intro v1 w1 hv1 hb1; obtain ⟨a1, c1, hve, _, _⟩ := (Ts.own hv1).form; subst hve; have hsl1 : Sl (.slice a1 22 c1) := (Ts.own hv1).rd.sl; have h9 := HB.new w1 34 (outc (oO 5000) (.slice a1 22 c1)))
          | (with_reducible refine wpList_at 25 ?_; go_loud (refine wpList_buildV rfl 34 _ rfl [(0, .int .u64 5000), (1, .slice a1 22 c1)] rfl _ (run_build_out 5000 _ _ _ w1) ?_))
          | (with_reducible refine wpList_at 9 ?_; go_loud (refine asOut (.tmp 25) 9 (oO 5000) (.slice a1 22 c1) hsl1 rfl rfl rfl rfl rfl rfl rfl rfl ?_))
          | (with_reducible refine wpList_atS 32 ?_; go_loud (refine wpList_store_sub rfl 22 (.tmp 32) (.const (.int .u64 293)) rfl w1.heap.size 0 _ _ [.int .u64 293] (.int .u64 293) rfl rfl rfl h9 (by kernel_rfl) (by simp) h293 ?_); go_loud (rw [outc_v]; have hBq : Below w1.heap.size w1 ((w1.alloc (.cells (outc (oO 5000) (.slice a1 22 c1)).toArray 34)).setRow w1.heap.size (outc (oO 293) (.slice a1 22 c1)).toArray) := Below.setRow ((Below.refl _ _).alloc (Nat.le_refl _) _) (Nat.le_refl _) _; have h9q : HB ((w1.alloc (.cells (outc (oO 5000) (.slice a1 22 c1)).toArray 34)).setRow w1.heap.size (outc (oO 293) (.slice a1 22 c1)).toArray) w1.heap.size 34 (outc (oO 293) (.slice a1 22 c1)) := h9.setRow _; generalize (w1.alloc (.cells (outc (oO 5000) (.slice a1 22 c1)).toArray 34)).setRow w1.heap.size (outc (oO 293) (.slice a1 22 c1)).toArray = w3 at *; have hB3 := (((Below.refl wr.heap.size wr).alloc (Nat.le_refl _) (.cells #[.int .u8 0, .int .u8 20] 5)).trans (hb1.mono (by simp))).trans (hBq.mono (by have := hb1.size; simp at this; omega)); have ht3 := ht.below hB3; have hown3 := own_below hown hB3; have hs3 := hB3.size; have hsc3 := Ts.mono (b' := w.heap.size) (Ts.below (Ts.own hv1) hBq) (by simp; omega); have c34 := ht3.cell (j := 2) rfl; have r35 := h9q.range))
          | (with_reducible refine wpList_at 35 ?_; go_loud (refine ldOut (.tmp 9) _ _ (oO 293) (.slice a1 22 c1) rfl rfl rfl r35 ?_))
          | (with_reducible refine wpList_at 36 ?_; go_loud (refine apOut (.tmp 34) (.tmp 35) 36 w.heap.size ov k _ (oO 293) _ hsl1 rfl rfl rfl rfl rfl rfl rfl rfl rfl (Gs.own hown3) (by omega) (by omega) ?_); intro v' w4 hown4 hg4; have ht4 := ht3.oth hg4.oth (own_ne_hb hown3 ht3 (by decide)); have hco := Sl.cells1 (Ts.own hown4).rd.sl)
          | (with_reducible refine wpList_atS 38 ?_; go_loud (refine wpList_store_sub rfl 30 (.tmp 38) (.tmp 37) rfl (w.heap.size + 1) 2 _ _ [v'] v' rfl rfl hco ht4 (by kernel_rfl) (by simp) (by intro v hv; obtain rfl := List.mem_singleton.1 hv; exact (Ts.own hown4).rd.sl.one) ?_); go_loud (rw [txc_outs]))
          | fail)
        try simp only [Act.put, List.setIfInBounds_toArray, List.set_cons_zero, List.set_cons_succ]
        have hoR := Oth.setRow w4 (w.heap.size + 1) (txc (aTx 0) (.slice (some ⟨w.heap.size, 0, none⟩) 1 1) v').toArray
        have hKR : KeepT w.heap.size w4 (w4.setRow (w.heap.size + 1) (txc (aTx 0) (.slice (some ⟨w.heap.size, 0, none⟩) 1 1) v').toArray) := KeepT.oth hoR (hb_mark ht4 (by unfold mark; decide))
        go_roundw
        case rel =>
          refine ⟨k + 1, v', cs ++ [outc (oO 293) (.slice a1 22 c1)], by omega, by go_num, ht4.setRow _, ?_, ?_, ?_, hKR.ts (Ts.grew (Ts.below hTI hB3) hg4 hown3 (by decide)) (.inl rfl), ?_⟩
          · have := own_oth hown4 hoR (fun g hg q => own_ne_hb hown4 ht4 (by decide) (by rw [hg, ← q]))
            simpa using this
          · intro c hc
            rcases List.mem_append.1 hc with h | h
            · exact hcl c h
            · simp at h; subst h; rfl
          · rw [HO.out]
            exact All2.snoc (hA.mono fun c y ⟨sv, e, hs⟩ => ⟨sv, e, hKR.ts (Ts.grew (Ts.below hs hB3) hg4 hown3 (by decide)) (.inr (.inr (.inl rfl)))⟩) ⟨_, rfl, hKR.ts (Ts.grew hsc3 hg4 hown3 (by decide)) (.inr (.inr (.inl rfl)))⟩
          · exact Below.setRow ((hbel.trans (hB3.mono hsz)).trans (hg4.below (by omega))) (by omega) _
        case measure => simp [intOf]; omega
      | false =>
        rw [hbb] at hbit
        have HO : Hid (outsN r (k + 1) = outsN r k ++ [oO 5000]) := Lib.hid (by rw [outsN_succ, hbb]; rfl)
        clear hbb hr
        go_wp2_with (first
          | (with_reducible refine wpList_at 24 ?_; go_loud (refine wpList_appZ (.tmp 23) rfl rfl wr.heap.size 0 20 rfl hbs ?_); intro v1 w1 hv1 hb1; obtain ⟨a1, c1, hve, _, _⟩ := (Ts.own hv1).form; subst hve; have hsl1 : Sl (.slice a1 22 c1) := (Ts.own hv1).rd.sl; have h9 := HB.new w1 34 (outc (oO 5000) (.slice a1 22 c1)))
          | (with_reducible refine wpList_at 25 ?_; go_loud (refine wpList_buildV rfl 34 _ rfl [(0, .int .u64 5000), (1, .slice a1 22 c1)] rfl _ (run_build_out 5000 _ _ _ w1) ?_))
          | (with_reducible refine wpList_at 9 ?_; go_loud (refine asOut (.tmp 25) 9 (oO 5000) (.slice a1 22 c1) hsl1 rfl rfl rfl rfl rfl rfl rfl rfl ?_); go_loud (have hBq : Below w1.heap.size w1 (w1.alloc (.cells (outc (oO 5000) (.slice a1 22 c1)).toArray 34)) := (Below.refl _ _).alloc (Nat.le_refl _) _; have h9q : HB (w1.alloc (.cells (outc (oO 5000) (.slice a1 22 c1)).toArray 34)) w1.heap.size 34 (outc (oO 5000) (.slice a1 22 c1)) := h9; generalize w1.alloc (.cells (outc (oO 5000) (.slice a1 22 c1)).toArray 34) = w3 at *; have hB3 := (((Below.refl wr.heap.size wr).alloc (Nat.le_refl _) (.cells #[.int .u8 0, .int .u8 20] 5)).trans (hb1.mono (by simp))).trans (hBq.mono (by have := hb1.size; simp at this; omega)); have ht3 := ht.below hB3; have hown3 := own_below hown hB3; have hs3 := hB3.size; have hsc3 := Ts.mono (b' := w.heap.size) (Ts.below (Ts.own hv1) hBq) (by simp; omega); have c34 := ht3.cell (j := 2) rfl; have r35 := h9q.range))
          | (with_reducible refine wpList_at 35 ?_; go_loud (refine ldOut (.tmp 9) _ _ (oO 5000) (.slice a1 22 c1) rfl rfl rfl r35 ?_))
          | (with_reducible refine wpList_at 36 ?_; go_loud (refine apOut (.tmp 34) (.tmp 35) 36 w.heap.size ov k _ (oO 5000) _ hsl1 rfl rfl rfl rfl rfl rfl rfl rfl rfl (Gs.own hown3) (by omega) (by omega) ?_); intro v' w4 hown4 hg4; have ht4 := ht3.oth hg4.oth (own_ne_hb hown3 ht3 (by decide)); have hco := Sl.cells1 (Ts.own hown4).rd.sl)
          | (with_reducible refine wpList_atS 38 ?_; go_loud (refine wpList_store_sub rfl 30 (.tmp 38) (.tmp 37) rfl (w.heap.size + 1) 2 _ _ [v'] v' rfl rfl hco ht4 (by kernel_rfl) (by simp) (by intro v hv; obtain rfl := List.mem_singleton.1 hv; exact (Ts.own hown4).rd.sl.one) ?_); go_loud (rw [txc_outs]))
          | fail)
        try simp only [Act.put, List.setIfInBounds_toArray, List.set_cons_zero, List.set_cons_succ]
        have hoR := Oth.setRow w4 (w.heap.size + 1) (txc (aTx 0) (.slice (some ⟨w.heap.size, 0, none⟩) 1 1) v').toArray
        have hKR : KeepT w.heap.size w4 (w4.setRow (w.heap.size + 1) (txc (aTx 0) (.slice (some ⟨w.heap.size, 0, none⟩) 1 1) v').toArray) := KeepT.oth hoR (hb_mark ht4 (by unfold mark; decide))
        go_roundw
        case rel =>
          refine ⟨k + 1, v', cs ++ [outc (oO 5000) (.slice a1 22 c1)], by omega, by go_num, ht4.setRow _, ?_, ?_, ?_, hKR.ts (Ts.grew (Ts.below hTI hB3) hg4 hown3 (by decide)) (.inl rfl), ?_⟩
          · have := own_oth hown4 hoR (fun g hg q => own_ne_hb hown4 ht4 (by decide) (by rw [hg, ← q]))
            simpa using this
          · intro c hc
            rcases List.mem_append.1 hc with h | h
            · exact hcl c h
            · simp at h; subst h; rfl
          · rw [HO.out]
            exact All2.snoc (hA.mono fun c y ⟨sv, e, hs⟩ => ⟨sv, e, hKR.ts (Ts.grew (Ts.below hs hB3) hg4 hown3 (by decide)) (.inr (.inr (.inl rfl)))⟩) ⟨_, rfl, hKR.ts (Ts.grew hsc3 hg4 hown3 (by decide)) (.inr (.inr (.inl rfl)))⟩
          · exact Below.setRow ((hbel.trans (hB3.mono hsz)).trans (hg4.below (by omega))) (by omega) _
        case measure => simp [intOf]; omega
    · obtain rfl : k = 3 := by omega
      have hTO : TOuts wr w.heap.size ov (outsN r 3) := ⟨cs, by rw [outsN_len]; exact Ts.own hown, hcl, hA⟩
      have hr8 : r < 8 := by omega
      have hGr := hGL.below hbel
      have hsw := hbel.size
      obtain ⟨oa, oc, rfl, ho1, ho2⟩ := (Ts.own hown).form
      clear hown hA hcl
      go_wp2_with fail
      refine (New_ok wr).mono ?_
      rintro e w2 ⟨rfl, hP2, hb2⟩
      have ht2 := ht.below hb2
      have hs2 := hb2.size
      have hlt2 : wr.heap.size + 2 < w2.heap.size := hP2.hb.lt
      have hTI2 : TIns w2 w.heap.size _ (aTx 0).ins := Ts.below hTI hb2
      have hTO2 := hTO.below hb2
      have r42 := ht2.range
      go_wp2_with (first
        | (with_reducible refine wpList_at 42 ?_; go_loud (refine ldTx (w := w2) (.tmp 7) _ _ (aTx 0) _ _ rfl rfl rfl r42 ?_))
        | fail)
      refine (Entry_ok (aTx r) (.slice (some ⟨w.heap.size, 0, none⟩) 1 1) (.slice oa 3 oc) 0 0 w2 (aTx_wf r) hTI2.ri hTO2.ro (hGr.below hb2)).mono ?_
      rintro e w3 ⟨i', u', d', rfl, hI3, hU3, hD3, hb3⟩
      have hE3 : TEnt w3 0 (entry (aTx r) 0 0) i' u' d' := ⟨hI3.mono (Nat.zero_le _), hU3.mono (Nat.zero_le _), hD3.mono (Nat.zero_le _)⟩
      have hs3 := hb3.size
      have hEq : entry (aTx r) 0 0 = entry (aTx r) 0 0 := rfl
      have hEw := aEnt_wf r hr8
      have hEid : (entry (aTx r) 0 0).id ≠ zid := aTx_id r hr8
      have hEtx : (entry (aTx r) 0 0).tx = aTx r := rfl
      clear hEq hI3 hU3 hD3
      generalize entry (aTx r) 0 0 = en at *
      have hsi := hE3.i.sl
      have hsu := hE3.u.sl
      have hsd := hE3.d.rd.sl
      have r45 := (HB.new w3 42 (entc en i' u' d')).range
      go_wp2_with (first
        | (with_reducible refine wpList_at 11 ?_; go_loud (refine asEnt (.tmp 43) 11 en i' u' d' hsi hsu hsd rfl rfl rfl rfl rfl rfl rfl rfl ?_))
        | (with_reducible refine wpList_at 45 ?_; go_loud (refine ldEnt (.tmp 11) _ _ en i' u' d' rfl rfl rfl r45 ?_))
        | fail)
      have hb4 : Below w3.heap.size w3 (w3.alloc (.cells (entc en i' u' d').toArray 42)) := (Below.refl _ _).alloc (Nat.le_refl _) _
      have he4 := HB.new w3 42 (entc en i' u' d')
      have hs4 : (w3.alloc (.cells (entc en i' u' d').toArray 42)).heap.size = w3.heap.size + 1 := by simp
      generalize w3.alloc (.cells (entc en i' u' d').toArray 42) = w4 at *
      have hP4 := (hP2.below hb3).below hb4
      refine (Add_ok wr.heap.size w4 (wr.heap.size + 2) wr.heap.size (wr.heap.size + 1) (.slice none 0 0) ⟨[], fun _ => none⟩ en i' u' d' hP4 hEw (by simp) (hE3.below hb4)).mono ?_
      rintro e w5 ⟨rfl, ov5, hP5, hb5, hex5⟩
      rw [empty_put] at hP5
      have hb25 : Below wr.heap.size w2 w5 := ((hb3.mono (by omega)).trans (hb4.mono (by omega))).trans hb5
      have hbr5 : Below wr.heap.size wr w5 := hb2.trans hb25
      have ht5 := ht.below hbr5
      have hTO5 := hTO.below hbr5
      have hTI5 : TIns w5 w.heap.size _ (aTx 0).ins := Ts.below hTI hbr5
      have he5 : HB w5 w3.heap.size 42 (entc en i' u' d') := he4.of_heap (hex5 _ (by omega) (by omega) (by omega) (by omega) (by simp [Value.ownBlock]))
      have hG5 := hGr.below hbr5
      have hBw5 : Below w.heap.size w w5 := hbel.trans (hbr5.mono hsw)
      have hs5 := hb5.size
      clear hP2 hb2 ht2 hTI2 hTO2 r42 hE3 r45 hb4 he4 hP4 hb5 hex5 hb25 hbr5 ht hTO hTI hbel hGr hb3
      generalize hsn : (s % 8).toNat = sn
      have hs8 : sn < 8 := by omega
      have hs47 := HB.new w5 28 (inc ⟨zid, 5, 0⟩)
      have c50 := (ht5.alloc (.cells (inc ⟨zid, 5, 0⟩).toArray 28)).cell (j := 2) rfl
      have hsl1 : Sl (.slice (some ⟨w5.heap.size, 0, none⟩) 1 1) := ⟨_, _, _, rfl⟩
      have hsl2 : Sl (.slice oa 1 oc) := ⟨_, _, _, rfl⟩
      have ho3 : (1 : Int) ≤ oc := by omega
      go_wp2_with (first
        | (with_reducible refine wpList_at 47 ?_; go_loud (refine wpList_buildV rfl 28 _ rfl [(1, .int .u32 5)] rfl _ (run_build_in1 5 w5) ?_))
        | (with_reducible refine wpList_at 48 ?_; go_loud (refine wpList_slice1 rfl 29 28 (.tmp 47) rfl zIn 36 96 Tryd.underlying29 infoIn (by decide) (by decide) zcIn (inc ⟨zid, 5, 0⟩) rfl (inc_length _) ?_))
        | (with_reducible refine wpList_at 12 ?_; go_loud (refine asTx (.tmp 52) 12 (aTx 0) (.slice (some ⟨w5.heap.size, 0, none⟩) 1 1) (.slice oa 1 oc) hsl1 hsl2 rfl rfl rfl rfl rfl rfl rfl rfl ?_))
        | fail)
      have hb6 : Below w5.heap.size w5 ((w5.alloc (.cells (inc ⟨zid, 5, 0⟩).toArray 28)).alloc (.cells (txc (aTx 0) (.slice (some ⟨w5.heap.size, 0, none⟩) 1 1) (.slice oa 1 oc)).toArray 32)) := ((Below.refl _ _).alloc (Nat.le_refl _) _).alloc (by simp) _
      have hi6 := Ts.of_hb (base := w5.heap.size) (n := 1) (k := 36) (hs47.alloc (.cells (txc (aTx 0) (.slice (some ⟨w5.heap.size, 0, none⟩) 1 1) (.slice oa 1 oc)).toArray 32)) (Nat.le_refl _) (by simp) (by decide)
      have ht6 := HB.new (w5.alloc (.cells (inc ⟨zid, 5, 0⟩).toArray 28)) 32 (txc (aTx 0) (.slice (some ⟨w5.heap.size, 0, none⟩) 1 1) (.slice oa 1 oc))
      have hsz6 : (w5.alloc (.cells (inc ⟨zid, 5, 0⟩).toArray 28)).heap.size = w5.heap.size + 1 := by simp
      rw [hsz6] at ht6
      change Code.wp _ _ _ _ ((w5.alloc (.cells (inc ⟨zid, 5, 0⟩).toArray 28)).alloc (.cells (txc (aTx 0) (.slice (some ⟨w5.heap.size, 0, none⟩) 1 1) (.slice oa 1 oc)).toArray 32))
      generalize (w5.alloc (.cells (inc ⟨zid, 5, 0⟩).toArray 28)).alloc (.cells (txc (aTx 0) (.slice (some ⟨w5.heap.size, 0, none⟩) 1 1) (.slice oa 1 oc)).toArray 32) = w6 at *
      clear hsz6 hs47 c50
      go_loopw [13] (fun j wr => ∃ (k : Nat) (iv : Value), k ≤ 3 ∧ j = .int .i64 k ∧ HB wr (w5.heap.size + 1) 32 (txc (aTx 0) iv (.slice oa 1 oc)) ∧ Gs wr w5.heap.size 28 36 iv (bIns en.id sn k).length ((bIns en.id sn k).flatMap inc) ∧
        Ts wr w5.heap.size 28 36 iv (bIns en.id sn k).length ((bIns en.id sn k).flatMap inc) ∧ Below w5.heap.size w5 wr) (fun j _ => 3 - (intOf j).toNat)
      case atStart => exact ⟨0, _, Nat.zero_le _, rfl, ht6, Gs.of_full (by simpa [bIns, selN] using hi6.rd), by simpa [bIns, selN] using hi6, hb6⟩
      case round =>
        clear ht6 hi6 hb6
        obtain ⟨k, iv, hk, rfl, htb, hGs, hTs, hbel⟩ := hrel
        by_cases hlt : k < 3
        · have hsz := hbel.size
          have hwr := wrap32 (k : Int) (by omega)
          have hbit := bit_of s k hlt
          rw [hsn] at hbit
          have r66 := (he5.belowB hbel (by omega)).sub (entc_id_get en i' u' d')
          obtain ⟨va, vc, rfl, _, _⟩ : ∃ a c, iv = .slice a (bIns en.id sn k).length c ∧ (bIns en.id sn k).length ≤ c ∧ c ≤ 9223372036854775807 := hTs.form
          have c64 := htb.cell (j := 1) rfl
          cases hbb : bitB sn k with
          | true =>
            rw [hbb] at hbit
            have HO := Lib.hid (bIns_succ en.id sn k)
            rw [hbb] at HO
            have hlen := bIns_len en.id sn k
            clear hbb hsn
            go_wp2_with (first
              | (with_reducible refine wpList_at 66 ?_; go_loud (refine ldID (.tmp 65) _ _ en.id rfl rfl rfl r66 ?_))
              | (with_reducible refine wpList_at 69 ?_; go_loud (refine wpList_buildV rfl 28 _ rfl [(0, .agg (idc en.id).toArray), (1, .int .u32 k)] rfl _ (run_build_in2 en.id k wr) ?_))
              | (with_reducible refine wpList_at 70 ?_; go_loud (refine apIn (.tmp 64) (.tmp 69) 70 w5.heap.size (.slice va (bIns en.id sn k).length vc) _ _ ⟨en.id, k, 0⟩ rfl rfl rfl rfl rfl rfl rfl rfl rfl hGs (by omega) (by omega) ?_); intro v' w7 hown7 hg7; have ht7 := htb.oth hg7.oth (ts_ne_hb hTs htb (by decide)); have hco := Sl.cells1 (Ts.own hown7).rd.sl)
              | (with_reducible refine wpList_atS 72 ?_; go_loud (refine wpList_store_sub rfl 29 (.tmp 72) (.tmp 71) rfl (w5.heap.size + 1) 1 _ _ [v'] v' rfl rfl hco ht7 (by kernel_rfl) (by simp) (by intro v hv; obtain rfl := List.mem_singleton.1 hv; exact (Ts.own hown7).rd.sl.one) ?_); go_loud (rw [txc_ins]))
              | fail)
            try simp only [Act.put, List.setIfInBounds_toArray, List.set_cons_zero, List.set_cons_succ]
            have hoR := Oth.setRow w7 (w5.heap.size + 1) (txc (aTx 0) v' (.slice oa 1 oc)).toArray
            have hown8 := own_oth hown7 hoR (fun g hg q => own_ne_hb hown7 ht7 (by decide) (by rw [hg, ← q]))
            have hlen1 : (bIns en.id sn (k + 1)).length = (bIns en.id sn k).length + 1 := by rw [HO.out]; simp
            have hfl1 : (bIns en.id sn (k + 1)).flatMap inc = (bIns en.id sn k).flatMap inc ++ inc ⟨en.id, k, 0⟩ := by rw [HO.out]; simp
            go_roundw
            case rel =>
              refine ⟨k + 1, v', by omega, by go_num, ht7.setRow _, ?_, ?_, Below.setRow (hbel.trans (hg7.below (by omega))) (by omega) _⟩
              · rw [hlen1, hfl1]; exact Gs.own hown8
              · rw [hlen1, hfl1]; exact Ts.own hown8
            case measure => simp [intOf]; omega
          | false =>
            rw [hbb] at hbit
            have HO := Lib.hid (bIns_succ en.id sn k)
            rw [hbb] at HO
            have hlen := bIns_len en.id sn k
            clear hbb hsn
            have hE : Hid (bIns en.id sn (k + 1) = bIns en.id sn k) := Lib.hid (by rw [HO.out]; simp)
            go_wp2_with fail
            go_roundw
            case rel =>
              refine ⟨k + 1, _, by omega, by go_num, htb, ?_, ?_, hbel⟩
              · rw [hE.out]; exact hGs
              · rw [hE.out]; exact hTs
            case measure => simp [intOf]; omega
        · obtain rfl : k = 3 := by omega
          have hsz := hbel.size
          have E1 : bits BinOp.and IntKind.i64 s 7 = (sn : Int) := by rw [i64_and7]; omega
          have E2 : bits BinOp.and IntKind.i64 D 7 = (r : Int) := by rw [i64_and7]; omega
          have E3 : bits BinOp.andNot IntKind.i64 (r : Int) s = ((r &&& (7 - sn) : Nat) : Int) := by rw [i64_andNot r hr8, hsn]
          have hsp := law_spends r sn hr8 hs8 en (fun q => if q ∈ points en.tx then some en.id else none) hEtx hEid
          have hfe := law_fee r hr8 fee
          have hTb : TIns wr w5.heap.size iv (bIns en.id sn 3) := hTs
          have hUb : TOuts wr w.heap.size (.slice oa 1 oc) (outsN r 1) := by
            have := (hTO5.below hbel).take (n := 1) (by rw [outsN_len]) (by rw [outsN_len]; decide)
            have e : (outsN r 3).take 1 = outsN r 1 := by simp [outsN, List.range_succ]
            rwa [e] at this
          have hok : ∀ x ∈ (bTx r sn en.id).ins, IdOk x.prev := by
            intro x hx
            rcases List.mem_cons.1 hx with rfl | hx
            · exact zid_ok
            · obtain ⟨i, _, rfl⟩ := List.mem_map.1 hx
              exact hEw.id
          have hSp := Spends_of rising_ok _ wr _ _ _ ov5 _ (bTx r sn en.id) iv (.slice oa 1 oc) (hP5.below hbel) hTb.ri hUb.ro (bTx_wf r sn en.id) hok
          rw [hsp] at hSp
          have hFee : ∀ w8, Below w5.heap.size w5 w8 → Calls Tryd.prog 8 #[.agg (txc (aTx r) (.slice (some ⟨w.heap.size, 0, none⟩) 1 1) (.slice oa 3 oc)).toArray, .int .u64 fee] w8 fun e w' => e = .returned (.int .i64 (feeI (aTx r) fee)) ∧ Below w8.heap.size w8 w' :=
            fun w8 hb => Fee_ok (aTx r) _ _ fee w8 (aTx_wf r) (hTO5.below hb).ro ⟨_, _, _, rfl⟩
          rw [hfe] at hFee
          have r91 : wr.rangeAt (w5.heap.size + 1) 0 (txc (bTx r sn en.id) iv (.slice oa 1 oc)) := htb.range
          have hT7 : ∀ w8, Below w5.heap.size w5 w8 → HB w8 (w.heap.size + 1) 32 (txc (aTx r) (.slice (some ⟨w.heap.size, 0, none⟩) 1 1) (.slice oa 3 oc)) := fun w8 hb => ht5.below hb
          generalize hqq : r &&& (7 - sn) = q at *
          have HSP := Lib.hid hSp
          have HFEE := Lib.hid hFee
          have HT7 := Lib.hid hT7
          clear hSp hFee hT7 hsp hfe hqq hTs hGs hTb hUb hok htb hTO5 ht5 he5 hTI5 hP5 hEid hEtx hEw hr hsn
          by_cases a1 : 0 < sn
          · by_cases a2 : 0 < q
            · by_cases b1 : 0 < r
              · by_cases b2 : 0 < fee
                · have f1 : (0 : Int) < (sn : Int) := by omega
                  have f2 : (0 : Int) < (q : Int) := by omega
                  have f3 : (0 : Int) < (r : Int) := by omega
                  have HS2 : Hid (Calls Tryd.prog 7 _ wr fun e w' => e = .returned (.int .i64 26) ∧ Below wr.heap.size wr w') := Lib.hid (by have := HSP.out; rwa [if_pos ⟨a1, a2⟩] at this)
                  have HF2 : Hid (∀ w8, Below w5.heap.size w5 w8 → Calls Tryd.prog 8 #[.agg (txc (aTx r) (.slice (some ⟨w.heap.size, 0, none⟩) 1 1) (.slice oa 3 oc)).toArray, .int .u64 fee] w8 fun e w' => e = .returned (.int .i64 18) ∧ Below w8.heap.size w8 w') := Lib.hid (by have := HFEE.out; rwa [if_pos ⟨b1, b2⟩] at this)
                  clear HSP HFEE
                  go_wp2_with (first
                    | (with_reducible refine wpList_at 91 ?_; go_loud (refine ldTx (w := wr) (.tmp 12) _ _ (bTx r sn en.id) iv (.slice oa 1 oc) rfl rfl rfl r91 ?_))
                    | fail)
                  refine HS2.out.mono ?_
                  rintro e w8 ⟨rfl, hb8⟩
                  have hB8 := hbel.trans (hb8.mono hsz)
                  have k8 := HT7.out w8 hB8
                  have k80 : w8.cell? ⟨w.heap.size + 1, 0, none⟩ = some (.int .u32 3) := k8.cell (j := 0) rfl
                  have k81 : w8.cell? ⟨w.heap.size + 1, 1, none⟩ = some (.slice (some ⟨w.heap.size, 0, none⟩) 1 1) := k8.cell (j := 1) rfl
                  have k82 : w8.cell? ⟨w.heap.size + 1, 2, none⟩ = some (.slice oa 3 oc) := k8.cell (j := 2) rfl
                  have k83 : w8.cell? ⟨w.heap.size + 1, 3, none⟩ = some (.int .u32 0) := k8.cell (j := 3) rfl
                  go_wp2_with fail
                  refine (HF2.out w8 hB8).mono ?_
                  rintro e w9 ⟨rfl, hb9⟩
                  have hB9 := hB8.trans (hb9.mono hB8.size)
                  go_wp2_with fail
                  refine (HAW w9 (hG5.below hB9)).mono ?_
                  rintro e w10 ⟨rfl, hb10⟩
                  go_wp2_with fail
                  go_ret
                  exact ⟨rfl, hBw5.trans ((hB9.trans (hb10.mono hB9.size)).mono (by have := hBw5.size; omega))⟩
                · have f1 : (0 : Int) < (sn : Int) := by omega
                  have f2 : (0 : Int) < (q : Int) := by omega
                  have f3 : (0 : Int) < (r : Int) := by omega
                  have HS2 : Hid (Calls Tryd.prog 7 _ wr fun e w' => e = .returned (.int .i64 26) ∧ Below wr.heap.size wr w') := Lib.hid (by have := HSP.out; rwa [if_pos ⟨a1, a2⟩] at this)
                  have HF2 : Hid (∀ w8, Below w5.heap.size w5 w8 → Calls Tryd.prog 8 #[.agg (txc (aTx r) (.slice (some ⟨w.heap.size, 0, none⟩) 1 1) (.slice oa 3 oc)).toArray, .int .u64 fee] w8 fun e w' => e = .returned (.int .i64 0) ∧ Below w8.heap.size w8 w') := Lib.hid (by have := HFEE.out; rwa [if_neg (fun z => b2 z.2)] at this)
                  clear HSP HFEE
                  go_wp2_with (first
                    | (with_reducible refine wpList_at 91 ?_; go_loud (refine ldTx (w := wr) (.tmp 12) _ _ (bTx r sn en.id) iv (.slice oa 1 oc) rfl rfl rfl r91 ?_))
                    | fail)
                  refine HS2.out.mono ?_
                  rintro e w8 ⟨rfl, hb8⟩
                  have hB8 := hbel.trans (hb8.mono hsz)
                  have k8 := HT7.out w8 hB8
                  have k80 : w8.cell? ⟨w.heap.size + 1, 0, none⟩ = some (.int .u32 3) := k8.cell (j := 0) rfl
                  have k81 : w8.cell? ⟨w.heap.size + 1, 1, none⟩ = some (.slice (some ⟨w.heap.size, 0, none⟩) 1 1) := k8.cell (j := 1) rfl
                  have k82 : w8.cell? ⟨w.heap.size + 1, 2, none⟩ = some (.slice oa 3 oc) := k8.cell (j := 2) rfl
                  have k83 : w8.cell? ⟨w.heap.size + 1, 3, none⟩ = some (.int .u32 0) := k8.cell (j := 3) rfl
                  go_wp2_with fail
                  refine (HF2.out w8 hB8).mono ?_
                  rintro e w9 ⟨rfl, hb9⟩
                  have hB9 := hB8.trans (hb9.mono hB8.size)
                  go_wp2_with fail
                  refine (HAW w9 (hG5.below hB9)).mono ?_
                  rintro e w10 ⟨rfl, hb10⟩
                  go_wp2_with fail
                  go_ret
                  exact ⟨rfl, hBw5.trans ((hB9.trans (hb10.mono hB9.size)).mono (by have := hBw5.size; omega))⟩
              · have f1 : (0 : Int) < (sn : Int) := by omega
                have f2 : (0 : Int) < (q : Int) := by omega
                have f3 : ¬ (0 : Int) < (r : Int) := by omega
                have HS2 : Hid (Calls Tryd.prog 7 _ wr fun e w' => e = .returned (.int .i64 26) ∧ Below wr.heap.size wr w') := Lib.hid (by have := HSP.out; rwa [if_pos ⟨a1, a2⟩] at this)
                have HF2 : Hid (∀ w8, Below w5.heap.size w5 w8 → Calls Tryd.prog 8 #[.agg (txc (aTx r) (.slice (some ⟨w.heap.size, 0, none⟩) 1 1) (.slice oa 3 oc)).toArray, .int .u64 fee] w8 fun e w' => e = .returned (.int .i64 0) ∧ Below w8.heap.size w8 w') := Lib.hid (by have := HFEE.out; rwa [if_neg (fun z => b1 z.1)] at this)
                clear HSP HFEE
                go_wp2_with (first
                  | (with_reducible refine wpList_at 91 ?_; go_loud (refine ldTx (w := wr) (.tmp 12) _ _ (bTx r sn en.id) iv (.slice oa 1 oc) rfl rfl rfl r91 ?_))
                  | fail)
                refine HS2.out.mono ?_
                rintro e w8 ⟨rfl, hb8⟩
                have hB8 := hbel.trans (hb8.mono hsz)
                have k8 := HT7.out w8 hB8
                have k80 : w8.cell? ⟨w.heap.size + 1, 0, none⟩ = some (.int .u32 3) := k8.cell (j := 0) rfl
                have k81 : w8.cell? ⟨w.heap.size + 1, 1, none⟩ = some (.slice (some ⟨w.heap.size, 0, none⟩) 1 1) := k8.cell (j := 1) rfl
                have k82 : w8.cell? ⟨w.heap.size + 1, 2, none⟩ = some (.slice oa 3 oc) := k8.cell (j := 2) rfl
                have k83 : w8.cell? ⟨w.heap.size + 1, 3, none⟩ = some (.int .u32 0) := k8.cell (j := 3) rfl
                go_wp2_with fail
                refine (HF2.out w8 hB8).mono ?_
                rintro e w9 ⟨rfl, hb9⟩
                have hB9 := hB8.trans (hb9.mono hB8.size)
                go_wp2_with fail
                refine (HAW w9 (hG5.below hB9)).mono ?_
                rintro e w10 ⟨rfl, hb10⟩
                go_wp2_with fail
                go_ret
                exact ⟨rfl, hBw5.trans ((hB9.trans (hb10.mono hB9.size)).mono (by have := hBw5.size; omega))⟩
            · by_cases b1 : 0 < r
              · by_cases b2 : 0 < fee
                · have f1 : (0 : Int) < (sn : Int) := by omega
                  have f2 : ¬ (0 : Int) < (q : Int) := by omega
                  have f3 : (0 : Int) < (r : Int) := by omega
                  have HS2 : Hid (Calls Tryd.prog 7 _ wr fun e w' => e = .returned (.int .i64 0) ∧ Below wr.heap.size wr w') := Lib.hid (by have := HSP.out; rwa [if_neg (fun z => a2 z.2)] at this)
                  have HF2 : Hid (∀ w8, Below w5.heap.size w5 w8 → Calls Tryd.prog 8 #[.agg (txc (aTx r) (.slice (some ⟨w.heap.size, 0, none⟩) 1 1) (.slice oa 3 oc)).toArray, .int .u64 fee] w8 fun e w' => e = .returned (.int .i64 18) ∧ Below w8.heap.size w8 w') := Lib.hid (by have := HFEE.out; rwa [if_pos ⟨b1, b2⟩] at this)
                  clear HSP HFEE
                  go_wp2_with (first
                    | (with_reducible refine wpList_at 91 ?_; go_loud (refine ldTx (w := wr) (.tmp 12) _ _ (bTx r sn en.id) iv (.slice oa 1 oc) rfl rfl rfl r91 ?_))
                    | fail)
                  refine HS2.out.mono ?_
                  rintro e w8 ⟨rfl, hb8⟩
                  have hB8 := hbel.trans (hb8.mono hsz)
                  have k8 := HT7.out w8 hB8
                  have k80 : w8.cell? ⟨w.heap.size + 1, 0, none⟩ = some (.int .u32 3) := k8.cell (j := 0) rfl
                  have k81 : w8.cell? ⟨w.heap.size + 1, 1, none⟩ = some (.slice (some ⟨w.heap.size, 0, none⟩) 1 1) := k8.cell (j := 1) rfl
                  have k82 : w8.cell? ⟨w.heap.size + 1, 2, none⟩ = some (.slice oa 3 oc) := k8.cell (j := 2) rfl
                  have k83 : w8.cell? ⟨w.heap.size + 1, 3, none⟩ = some (.int .u32 0) := k8.cell (j := 3) rfl
                  go_wp2_with fail
                  refine (HF2.out w8 hB8).mono ?_
                  rintro e w9 ⟨rfl, hb9⟩
                  have hB9 := hB8.trans (hb9.mono hB8.size)
                  go_wp2_with fail
                  refine (HAW w9 (hG5.below hB9)).mono ?_
                  rintro e w10 ⟨rfl, hb10⟩
                  go_wp2_with fail
                  go_ret
                  exact ⟨rfl, hBw5.trans ((hB9.trans (hb10.mono hB9.size)).mono (by have := hBw5.size; omega))⟩
                · have f1 : (0 : Int) < (sn : Int) := by omega
                  have f2 : ¬ (0 : Int) < (q : Int) := by omega
                  have f3 : (0 : Int) < (r : Int) := by omega
                  have HS2 : Hid (Calls Tryd.prog 7 _ wr fun e w' => e = .returned (.int .i64 0) ∧ Below wr.heap.size wr w') := Lib.hid (by have := HSP.out; rwa [if_neg (fun z => a2 z.2)] at this)
                  have HF2 : Hid (∀ w8, Below w5.heap.size w5 w8 → Calls Tryd.prog 8 #[.agg (txc (aTx r) (.slice (some ⟨w.heap.size, 0, none⟩) 1 1) (.slice oa 3 oc)).toArray, .int .u64 fee] w8 fun e w' => e = .returned (.int .i64 0) ∧ Below w8.heap.size w8 w') := Lib.hid (by have := HFEE.out; rwa [if_neg (fun z => b2 z.2)] at this)
                  clear HSP HFEE
                  go_wp2_with (first
                    | (with_reducible refine wpList_at 91 ?_; go_loud (refine ldTx (w := wr) (.tmp 12) _ _ (bTx r sn en.id) iv (.slice oa 1 oc) rfl rfl rfl r91 ?_))
                    | fail)
                  refine HS2.out.mono ?_
                  rintro e w8 ⟨rfl, hb8⟩
                  have hB8 := hbel.trans (hb8.mono hsz)
                  have k8 := HT7.out w8 hB8
                  have k80 : w8.cell? ⟨w.heap.size + 1, 0, none⟩ = some (.int .u32 3) := k8.cell (j := 0) rfl
                  have k81 : w8.cell? ⟨w.heap.size + 1, 1, none⟩ = some (.slice (some ⟨w.heap.size, 0, none⟩) 1 1) := k8.cell (j := 1) rfl
                  have k82 : w8.cell? ⟨w.heap.size + 1, 2, none⟩ = some (.slice oa 3 oc) := k8.cell (j := 2) rfl
                  have k83 : w8.cell? ⟨w.heap.size + 1, 3, none⟩ = some (.int .u32 0) := k8.cell (j := 3) rfl
                  go_wp2_with fail
                  refine (HF2.out w8 hB8).mono ?_
                  rintro e w9 ⟨rfl, hb9⟩
                  have hB9 := hB8.trans (hb9.mono hB8.size)
                  go_wp2_with fail
                  refine (HAW w9 (hG5.below hB9)).mono ?_
                  rintro e w10 ⟨rfl, hb10⟩
                  go_wp2_with fail
                  go_ret
                  exact ⟨rfl, hBw5.trans ((hB9.trans (hb10.mono hB9.size)).mono (by have := hBw5.size; omega))⟩
              · have f1 : (0 : Int) < (sn : Int) := by omega
                have f2 : ¬ (0 : Int) < (q : Int) := by omega
                have f3 : ¬ (0 : Int) < (r : Int) := by omega
                have HS2 : Hid (Calls Tryd.prog 7 _ wr fun e w' => e = .returned (.int .i64 0) ∧ Below wr.heap.size wr w') := Lib.hid (by have := HSP.out; rwa [if_neg (fun z => a2 z.2)] at this)
                have HF2 : Hid (∀ w8, Below w5.heap.size w5 w8 → Calls Tryd.prog 8 #[.agg (txc (aTx r) (.slice (some ⟨w.heap.size, 0, none⟩) 1 1) (.slice oa 3 oc)).toArray, .int .u64 fee] w8 fun e w' => e = .returned (.int .i64 0) ∧ Below w8.heap.size w8 w') := Lib.hid (by have := HFEE.out; rwa [if_neg (fun z => b1 z.1)] at this)
                clear HSP HFEE
                go_wp2_with (first
                  | (with_reducible refine wpList_at 91 ?_; go_loud (refine ldTx (w := wr) (.tmp 12) _ _ (bTx r sn en.id) iv (.slice oa 1 oc) rfl rfl rfl r91 ?_))
                  | fail)
                refine HS2.out.mono ?_
                rintro e w8 ⟨rfl, hb8⟩
                have hB8 := hbel.trans (hb8.mono hsz)
                have k8 := HT7.out w8 hB8
                have k80 : w8.cell? ⟨w.heap.size + 1, 0, none⟩ = some (.int .u32 3) := k8.cell (j := 0) rfl
                have k81 : w8.cell? ⟨w.heap.size + 1, 1, none⟩ = some (.slice (some ⟨w.heap.size, 0, none⟩) 1 1) := k8.cell (j := 1) rfl
                have k82 : w8.cell? ⟨w.heap.size + 1, 2, none⟩ = some (.slice oa 3 oc) := k8.cell (j := 2) rfl
                have k83 : w8.cell? ⟨w.heap.size + 1, 3, none⟩ = some (.int .u32 0) := k8.cell (j := 3) rfl
                go_wp2_with fail
                refine (HF2.out w8 hB8).mono ?_
                rintro e w9 ⟨rfl, hb9⟩
                have hB9 := hB8.trans (hb9.mono hB8.size)
                go_wp2_with fail
                refine (HAW w9 (hG5.below hB9)).mono ?_
                rintro e w10 ⟨rfl, hb10⟩
                go_wp2_with fail
                go_ret
                exact ⟨rfl, hBw5.trans ((hB9.trans (hb10.mono hB9.size)).mono (by have := hBw5.size; omega))⟩
          · by_cases b1 : 0 < r
            · by_cases b2 : 0 < fee
              · have f1 : ¬ (0 : Int) < (sn : Int) := by omega
                have f3 : (0 : Int) < (r : Int) := by omega
                have HS2 : Hid (Calls Tryd.prog 7 _ wr fun e w' => e = .returned (.int .i64 0) ∧ Below wr.heap.size wr w') := Lib.hid (by have := HSP.out; rwa [if_neg (fun z => a1 z.1)] at this)
                have HF2 : Hid (∀ w8, Below w5.heap.size w5 w8 → Calls Tryd.prog 8 #[.agg (txc (aTx r) (.slice (some ⟨w.heap.size, 0, none⟩) 1 1) (.slice oa 3 oc)).toArray, .int .u64 fee] w8 fun e w' => e = .returned (.int .i64 18) ∧ Below w8.heap.size w8 w') := Lib.hid (by have := HFEE.out; rwa [if_pos ⟨b1, b2⟩] at this)
                clear HSP HFEE
                go_wp2_with (first
                  | (with_reducible refine wpList_at 91 ?_; go_loud (refine ldTx (w := wr) (.tmp 12) _ _ (bTx r sn en.id) iv (.slice oa 1 oc) rfl rfl rfl r91 ?_))
                  | fail)
                refine HS2.out.mono ?_
                rintro e w8 ⟨rfl, hb8⟩
                have hB8 := hbel.trans (hb8.mono hsz)
                have k8 := HT7.out w8 hB8
                have k80 : w8.cell? ⟨w.heap.size + 1, 0, none⟩ = some (.int .u32 3) := k8.cell (j := 0) rfl
                have k81 : w8.cell? ⟨w.heap.size + 1, 1, none⟩ = some (.slice (some ⟨w.heap.size, 0, none⟩) 1 1) := k8.cell (j := 1) rfl
                have k82 : w8.cell? ⟨w.heap.size + 1, 2, none⟩ = some (.slice oa 3 oc) := k8.cell (j := 2) rfl
                have k83 : w8.cell? ⟨w.heap.size + 1, 3, none⟩ = some (.int .u32 0) := k8.cell (j := 3) rfl
                go_wp2_with fail
                refine (HF2.out w8 hB8).mono ?_
                rintro e w9 ⟨rfl, hb9⟩
                have hB9 := hB8.trans (hb9.mono hB8.size)
                go_wp2_with fail
                refine (HAW w9 (hG5.below hB9)).mono ?_
                rintro e w10 ⟨rfl, hb10⟩
                go_wp2_with fail
                go_ret
                exact ⟨rfl, hBw5.trans ((hB9.trans (hb10.mono hB9.size)).mono (by have := hBw5.size; omega))⟩
              · have f1 : ¬ (0 : Int) < (sn : Int) := by omega
                have f3 : (0 : Int) < (r : Int) := by omega
                have HS2 : Hid (Calls Tryd.prog 7 _ wr fun e w' => e = .returned (.int .i64 0) ∧ Below wr.heap.size wr w') := Lib.hid (by have := HSP.out; rwa [if_neg (fun z => a1 z.1)] at this)
                have HF2 : Hid (∀ w8, Below w5.heap.size w5 w8 → Calls Tryd.prog 8 #[.agg (txc (aTx r) (.slice (some ⟨w.heap.size, 0, none⟩) 1 1) (.slice oa 3 oc)).toArray, .int .u64 fee] w8 fun e w' => e = .returned (.int .i64 0) ∧ Below w8.heap.size w8 w') := Lib.hid (by have := HFEE.out; rwa [if_neg (fun z => b2 z.2)] at this)
                clear HSP HFEE
                go_wp2_with (first
                  | (with_reducible refine wpList_at 91 ?_; go_loud (refine ldTx (w := wr) (.tmp 12) _ _ (bTx r sn en.id) iv (.slice oa 1 oc) rfl rfl rfl r91 ?_))
                  | fail)
                refine HS2.out.mono ?_
                rintro e w8 ⟨rfl, hb8⟩
                have hB8 := hbel.trans (hb8.mono hsz)
                have k8 := HT7.out w8 hB8
                have k80 : w8.cell? ⟨w.heap.size + 1, 0, none⟩ = some (.int .u32 3) := k8.cell (j := 0) rfl
                have k81 : w8.cell? ⟨w.heap.size + 1, 1, none⟩ = some (.slice (some ⟨w.heap.size, 0, none⟩) 1 1) := k8.cell (j := 1) rfl
                have k82 : w8.cell? ⟨w.heap.size + 1, 2, none⟩ = some (.slice oa 3 oc) := k8.cell (j := 2) rfl
                have k83 : w8.cell? ⟨w.heap.size + 1, 3, none⟩ = some (.int .u32 0) := k8.cell (j := 3) rfl
                go_wp2_with fail
                refine (HF2.out w8 hB8).mono ?_
                rintro e w9 ⟨rfl, hb9⟩
                have hB9 := hB8.trans (hb9.mono hB8.size)
                go_wp2_with fail
                refine (HAW w9 (hG5.below hB9)).mono ?_
                rintro e w10 ⟨rfl, hb10⟩
                go_wp2_with fail
                go_ret
                exact ⟨rfl, hBw5.trans ((hB9.trans (hb10.mono hB9.size)).mono (by have := hBw5.size; omega))⟩
            · have f1 : ¬ (0 : Int) < (sn : Int) := by omega
              have f3 : ¬ (0 : Int) < (r : Int) := by omega
              have HS2 : Hid (Calls Tryd.prog 7 _ wr fun e w' => e = .returned (.int .i64 0) ∧ Below wr.heap.size wr w') := Lib.hid (by have := HSP.out; rwa [if_neg (fun z => a1 z.1)] at this)
              have HF2 : Hid (∀ w8, Below w5.heap.size w5 w8 → Calls Tryd.prog 8 #[.agg (txc (aTx r) (.slice (some ⟨w.heap.size, 0, none⟩) 1 1) (.slice oa 3 oc)).toArray, .int .u64 fee] w8 fun e w' => e = .returned (.int .i64 0) ∧ Below w8.heap.size w8 w') := Lib.hid (by have := HFEE.out; rwa [if_neg (fun z => b1 z.1)] at this)
              clear HSP HFEE
              go_wp2_with (first
                | (with_reducible refine wpList_at 91 ?_; go_loud (refine ldTx (w := wr) (.tmp 12) _ _ (bTx r sn en.id) iv (.slice oa 1 oc) rfl rfl rfl r91 ?_))
                | fail)
              refine HS2.out.mono ?_
              rintro e w8 ⟨rfl, hb8⟩
              have hB8 := hbel.trans (hb8.mono hsz)
              have k8 := HT7.out w8 hB8
              have k80 : w8.cell? ⟨w.heap.size + 1, 0, none⟩ = some (.int .u32 3) := k8.cell (j := 0) rfl
              have k81 : w8.cell? ⟨w.heap.size + 1, 1, none⟩ = some (.slice (some ⟨w.heap.size, 0, none⟩) 1 1) := k8.cell (j := 1) rfl
              have k82 : w8.cell? ⟨w.heap.size + 1, 2, none⟩ = some (.slice oa 3 oc) := k8.cell (j := 2) rfl
              have k83 : w8.cell? ⟨w.heap.size + 1, 3, none⟩ = some (.int .u32 0) := k8.cell (j := 3) rfl
              go_wp2_with fail
              refine (HF2.out w8 hB8).mono ?_
              rintro e w9 ⟨rfl, hb9⟩
              have hB9 := hB8.trans (hb9.mono hB8.size)
              go_wp2_with fail
              refine (HAW w9 (hG5.below hB9)).mono ?_
              rintro e w10 ⟨rfl, hb10⟩
              go_wp2_with fail
              go_ret
              exact ⟨rfl, hBw5.trans ((hB9.trans (hb10.mono hB9.size)).mono (by have := hBw5.size; omega))⟩
end Go.Proofs.YtdpobhcpmpfioaaDoor

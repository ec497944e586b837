import Derived.Test.YtdpobhcpmpfioaaDoorM17
import Derived.Test.YtdpobhcpmpfioaaDoorM18
set_option linter.all false
set_option linter.unusedVariables false
set_option linter.unusedSimpArgs false
namespace Go.Proofs.YtdpobhcpmpfioaaDoor
open Go.RowKit

/-- r: the members of l by their order, each once -/
def IsRising (r l : List ID) : Prop := r.Pairwise (fun a b => cmpI a b < 0) ∧ ∀ x, x ∈ r ↔ x ∈ l
/-- what shas.Rising does -/
def RisingOk : Prop := ∀ (v : Value) (l : List ID) (w : World), Rd w 24 32 v l.length (l.flatMap idc) → l.length ≤ 100000 → (∀ x ∈ l, IdOk x) →
  Calls Tryd.prog 33 #[v] w fun e w' => ∃ v' r, e = .returned v' ∧ IsRising r l ∧ Rd w' 24 32 v' r.length (r.flatMap idc) ∧ Below w.heap.size w w'
def Pool.parents (P : Pool) (t : Tx) : List ID := (t.ins.map (·.prev)).filter fun x => (P.find x).isSome
def Pool.parentsN (P : Pool) (t : Tx) (k : Nat) : List ID := ((t.ins.take k).map (·.prev)).filter fun x => (P.find x).isSome
theorem parentsN_succ (P : Pool) (t : Tx) (k : Nat) (h : k < t.ins.length) : P.parentsN t (k + 1) = P.parentsN t k ++ (if (P.find t.ins[k].prev).isSome then [t.ins[k].prev] else []) := by
  unfold Pool.parentsN
  rw [List.take_succ_eq_append_getElem h, List.map_append, List.filter_append]
  congr 1
  simp [List.filter_cons]
theorem parentsN_all (P : Pool) (t : Tx) : P.parentsN t t.ins.length = P.parents t := by simp [Pool.parentsN, Pool.parents]
theorem parentsN_len (P : Pool) (t : Tx) (k : Nat) : (P.parentsN t k).length ≤ k := by
  unfold Pool.parentsN
  refine Nat.le_trans (List.length_filter_le _ _) ?_
  simp
  omega

set_option maxHeartbeats 4000000 in
set_option maxRecDepth 100000 in
theorem Parents_of (HR : RisingOk) (base : Nat) (w : World) (p m1 m2 : Nat) (ov : Value) (P : Pool) (t : Tx) (i u : Value) (h : PR base w p m1 m2 ov P) (hi : RIns w i t.ins) (hu : Sl u) (hl : t.ins.length ≤ 10000) (hok : ∀ x ∈ t.ins, IdOk x.prev) :
    Calls Tryd.prog 19 #[.pointer (some ⟨p, 0, none⟩), .agg (txc t i u).toArray] w fun e w' => ∃ v' r, e = .returned v' ∧ IsRising r (P.parents t) ∧ Rd w' 24 32 v' r.length (r.flatMap idc) ∧ Below w.heap.size w w' := by
  obtain ⟨ia, ic, rfl, hi1, hi2⟩ := Rd.form' hi
  have H := Lib.hid h
  have HO := Lib.hid hok
  have HRR := Lib.hid HR
  clear h hok HR
  go_enter Tryd.func19, Tryd.ntmps19
  obtain ⟨W, hW, b1, hbW⟩ : ∃ W, w.alloc (.cells (txc t (.slice ia t.ins.length ic) u).toArray 32) = W ∧ HB W w.heap.size 32 (txc t (.slice ia t.ins.length ic) u) ∧ Below w.heap.size w W := ⟨_, rfl, HB.new _ _ _, (Below.refl _ _).alloc (Nat.le_refl _) _⟩
  have hri := RIns.below hi hbW
  have HP := Lib.hid (H.out.below hbW)
  have c1 := b1.cell (j := 1) rfl
  clear hi
  go_wp2_with fail
  clear hW c1 b1
  go_loopw [5, 13] (fun q j wr => ∃ (k : Nat) (qq : Value), qq = q ∧ k ≤ t.ins.length ∧ j = .int .i64 k ∧ wr.ownsRow W.heap.size 24 32 qq (P.parentsN t k).length ((P.parentsN t k).flatMap idc) ∧ Below W.heap.size W wr) (fun _ j _ => t.ins.length - (intOf j).toNat)
  case atStart => exact ⟨0, _, rfl, Nat.zero_le _, rfl, World.ownsRow_nil _ _ _ _, Below.refl _ _⟩
  case round =>
    obtain ⟨k, q, hq, hk, rfl, hown, hbel⟩ := hrel
    subst hq
    by_cases hlt : k < t.ins.length
    · obtain ⟨b, off, c', he, _, _, hb, hat⟩ := Rd.at_ hri inc_length (by omega)
      obtain ⟨rfl, rfl⟩ : ia = some ⟨b, off, none⟩ ∧ ic = c' := by simpa using he
      have hr := range_belowB (hat k _ (List.getElem?_eq_getElem hlt)) hbel hb
      have hp := parentsN_succ P t k hlt
      have hlen := parentsN_len P t k
      have hx := HO.out _ (List.getElem_mem hlt)
      have HPN := Lib.hid hp
      have HX := Lib.hid hx
      clear hp hat hx
      generalize t.ins[k] = x at *
      have hsz := hbel.size
      have rI := range_new wr (inc x) 28 0 (idc x.prev) (inc_prev x)
      have hbI : Below W.heap.size W (wr.alloc (.cells (inc x).toArray 28)) := hbel.alloc (by omega) _
      have hxI := HB.new wr 28 (inc x)
      have hownI := hown.alloc (.cells (inc x).toArray 28)
      have hsI : (wr.alloc (.cells (inc x).toArray 28)).heap.size = wr.heap.size + 1 := by simp
      go_wp2_with (first
        | (with_reducible refine wpList_at 16 ?_; refine ldIn (.tmp 15) _ _ x rfl rfl rfl hr ?_)
        | (with_reducible refine wpList_at 7 ?_; refine asIn (.tmp 16) 7 x rfl rfl rfl rfl rfl rfl rfl rfl ?_)
        | (with_reducible refine wpList_at 20 ?_; refine ldID (.tmp 19) _ _ x.prev rfl rfl rfl rI ?_)
        | fail)
      generalize wr.alloc (.cells (inc x).toArray 28) = WI at *
      refine (Ref_ok base WI p m1 m2 ov P x.prev (HP.out.below hbI) HX.out).mono ?_
      rintro e w2 ⟨fb, c, rfl, hb2, hc, h1c, hfb, _, _⟩
      have hB2 := hbI.trans (hb2.mono hbI.size)
      have hown2 := own_below hownI hb2
      have hxI2 := hxI.below hb2
      have hs2 := hb2.size
      have HFB := Lib.hid hfb
      clear hfb hr rI hown hbel hownI hxI hbI hb2
      have hB3 : Below W.heap.size W (w2.alloc (.cells c.toArray 42)) := hB2.alloc (by omega) _
      have hown3 := hown2.alloc (.cells c.toArray 42)
      have r27 := (hxI2.alloc (.cells c.toArray 42)).sub (inc_prev x)
      have hs3 : (w2.alloc (.cells c.toArray 42)).heap.size = w2.heap.size + 1 := by simp
      have hln : (P.parentsN t k).length + 1 ≤ 1000000000 := by omega
      have hls := hlen
      cases fb with
      | true =>
        have HPS : Hid (P.parentsN t (k + 1) = P.parentsN t k ++ [x.prev]) := Lib.hid (by rw [HPN.out, ← HFB.out]; rfl)
        clear HPN HFB
        go_wp2_with (first
          | (with_reducible refine wpList_at 8 ?_; go_loud (refine wpList_allocStore rfl rfl 42 (.tmp 22) 8 rfl rfl rfl rfl rfl c rfl 72 zsEnt hc h1c ?_))
          | (with_reducible refine wpList_at 27 ?_; go_loud (refine ldID (.tmp 26) _ _ x.prev rfl rfl rfl r27 ?_))
          | (with_reducible refine wpList_at 28 ?_; go_loud (refine apID (.tmp 25) (.tmp 27) 28 W.heap.size q _ _ x.prev rfl rfl rfl rfl rfl rfl rfl rfl rfl (Gs.own hown3) hln (by omega) ?_); intro v' w4 hown' hg')
          | fail)
        go_roundw
        case rel =>
          refine ⟨k + 1, v', rfl, by omega, by go_num, ?_, hB3.trans (hg'.below (by omega))⟩
          rw [HPS.out]
          simpa using hown'
        case measure => simp [intOf]; omega
      | false =>
        have HPS : Hid (P.parentsN t (k + 1) = P.parentsN t k) := Lib.hid (by rw [HPN.out, ← HFB.out]; simp)
        clear HPN HFB
        go_wp2_with (first
          | (with_reducible refine wpList_at 8 ?_; go_loud (refine wpList_allocStore rfl rfl 42 (.tmp 22) 8 rfl rfl rfl rfl rfl c rfl 72 zsEnt hc h1c ?_))
          | fail)
        go_roundw
        case rel =>
          refine ⟨k + 1, q, rfl, by omega, by go_num, ?_, hB3⟩
          rw [HPS.out]
          exact hown3
        case measure => simp [intOf]; omega
    · obtain rfl : k = t.ins.length := by omega
      have hpl := parentsN_len P t t.ins.length
      rw [parentsN_all] at hown hpl
      have hok : ∀ x ∈ P.parents t, IdOk x := by
        intro x hx
        obtain ⟨hx, _⟩ := List.mem_filter.1 hx
        obtain ⟨y, hy, rfl⟩ := List.mem_map.1 hx
        exact HO.out y hy
      have hrd := Rd.own hown
      obtain ⟨qa, qc, hqe, _, _⟩ := hrd.form'
      have hc := HRR.out q (P.parents t) wr hrd (by omega) hok
      have HC := Lib.hid hc
      clear hc hok hrd hown hqe
      go_wp2_with fail
      refine HC.out.mono ?_
      rintro e w4 ⟨v', r, rfl, hr, hrr, hb4⟩
      go_wp2_with fail
      go_ret
      exact ⟨_, r, rfl, hr, hrr, hbW.trans ((hbel.mono hbW.size).trans (hb4.mono (by have := hbW.size; have := hbel.size; omega)))⟩
end Go.Proofs.YtdpobhcpmpfioaaDoor

import Derived.Test.YtdpobhcpmpfioaaDoorM06
import Derived.Test.YtdpobhcpmpfioaaDoorM07
set_option linter.all false
set_option linter.unusedVariables false
set_option linter.unusedSimpArgs false
/-! Slices whose block bears its element type's mark: what an entry holds. -/
namespace Go.Proofs.YtdpobhcpmpfioaaDoor
open Go.RowKit
def Ts (w : World) (base : Nat) (T k : Nat) (v : Value) (n : Nat) (xs : List Value) : Prop :=
  xs.length = n * k ∧ ((v = .slice none 0 0 ∧ n = 0) ∨ ∃ g cap cur, v = .slice (some ⟨g, 0, none⟩) n cap ∧ base ≤ g ∧ w.heap[g]? = some (.cells cur T (0, 0)) ∧ n ≤ cap ∧ cap ≤ maxLen ∧ cur.toList.take (n * k) = xs)
theorem Ts.own {w : World} {base T k n : Nat} {v : Value} {xs : List Value} (h : w.ownsRow base T k v n xs) : Ts w base T k v n xs := by
  obtain ⟨hl, h | ⟨g, cap, cur, e, hb, hg, h1, h2, h3, h4⟩⟩ := h
  · exact ⟨hl, .inl h⟩
  · exact ⟨hl, .inr ⟨g, cap, cur, e, hb, hg, h1, h2, h4⟩⟩
theorem Ts.rd {w : World} {base T k n : Nat} {v : Value} {xs : List Value} (h : Ts w base T k v n xs) : Rd w T k v n xs := by
  obtain ⟨hl, ⟨rfl, rfl⟩ | ⟨g, cap, cur, rfl, hb, hg, h1, h2, h4⟩⟩ := h
  · have : xs = [] := List.eq_nil_of_length_eq_zero (by simpa using hl)
    subst this
    exact Rd.nil w T k
  · refine ⟨hl, _, cap, rfl, h1, by simpa [maxLen] using h2, .inr ⟨g, 0, cur, T, (0, 0), rfl, hg, .inl rfl, fun j u hu => ?_⟩⟩
    rw [← h4, List.getElem?_take] at hu
    split at hu
    · simpa using hu
    · cases hu
theorem Ts.form {w : World} {base T k n : Nat} {v : Value} {xs : List Value} (h : Ts w base T k v n xs) : ∃ a c, v = .slice a n c ∧ n ≤ c ∧ c ≤ 9223372036854775807 := h.rd.form'
theorem Ts.clip {w : World} {base T k n m c : Nat} {a : Option Addr} {xs : List Value} (h : Ts w base T k (.slice a m c) n xs) : Ts w base T k (.slice a n n) n xs := by
  obtain ⟨hl, ⟨e, rfl⟩ | ⟨g, cap, cur, e, hb, hg, h1, h2, h4⟩⟩ := h
  · obtain ⟨rfl, rfl, rfl⟩ := by simpa using e
    exact ⟨hl, .inl ⟨rfl, rfl⟩⟩
  · obtain ⟨rfl, rfl, rfl⟩ := by simpa using e
    exact ⟨hl, .inr ⟨g, m, cur, rfl, hb, hg, Nat.le_refl _, by omega, h4⟩⟩
theorem Ts.mono {w : World} {base b' T k n : Nat} {v : Value} {xs : List Value} (h : Ts w base T k v n xs) (hb : b' ≤ base) : Ts w b' T k v n xs := by
  obtain ⟨hl, h | ⟨g, cap, cur, e, hb', r⟩⟩ := h
  · exact ⟨hl, .inl h⟩
  · exact ⟨hl, .inr ⟨g, cap, cur, e, Nat.le_trans hb hb', r⟩⟩
theorem Ts.kept {w w' : World} {base T k n : Nat} {v : Value} {xs : List Value} (h : Ts w base T k v n xs) (hk : ∀ g cur, v.ownBlock = some g → base ≤ g → w.heap[g]? = some (.cells cur T (0, 0)) → w'.heap[g]? = w.heap[g]?) : Ts w' base T k v n xs := by
  obtain ⟨hl, h | ⟨g, cap, cur, rfl, hb, hg, r⟩⟩ := h
  · exact ⟨hl, .inl h⟩
  · exact ⟨hl, .inr ⟨g, cap, cur, rfl, hb, (hk g cur rfl hb hg).trans hg, r⟩⟩
theorem Ts.below {w w' : World} {base T k n : Nat} {v : Value} {xs : List Value} (h : Ts w base T k v n xs) (hb : Below w.heap.size w w') : Ts w' base T k v n xs :=
  h.kept fun g cur _ _ hg => hb.block g (Array.getElem?_eq_some_iff.1 hg).1
theorem Ts.alloc {w : World} {base T k n : Nat} {v : Value} {xs : List Value} (h : Ts w base T k v n xs) (o : Obj) : Ts (w.alloc o) base T k v n xs := h.below ((Below.refl _ _).alloc (Nat.le_refl _) o)
/-- an append to a slice of another element type turns nothing here -/
theorem Ts.grew {w w' : World} {base b' c T T' k k' n n' : Nat} {v v' : Value} {xs xs' : List Value} (h : Ts w base T k v n xs) (hg : Grew c v' w w') (ho : w.ownsRow b' T' k' v' n' xs') (hT : T ≠ T') : Ts w' base T k v n xs := by
  refine h.kept fun g cur hv _ hgc => hg.block g (Array.getElem?_eq_some_iff.1 hgc).1 fun e => ?_
  obtain ⟨_, ⟨rfl, _⟩ | ⟨g', cap, cur', rfl, _, hg', _⟩⟩ := ho
  · simp [Value.ownBlock] at e
  · have : g' = g := by simpa [Value.ownBlock] using e
    subst this
    rw [hgc] at hg'
    simp at hg'
    exact hT hg'.2
/-- marks of what entries hold -/
def mark (T : TypeId) : Prop := T = 28 ∨ T = 34 ∨ T = 5 ∨ T = 3
def KeepT (base : Nat) (w w' : World) : Prop := ∀ g cur T, base ≤ g → w.heap[g]? = some (.cells cur T (0, 0)) → mark T → w'.heap[g]? = w.heap[g]?
theorem KeepT.ts {w w' : World} {base T k n : Nat} {v : Value} {xs : List Value} (hk : KeepT base w w') (h : Ts w base T k v n xs) (hm : mark T) : Ts w' base T k v n xs := h.kept fun g cur _ hb hg => hk g cur T hb hg hm
theorem KeepT.of_below {w w' : World} {base : Nat} (h : Below w.heap.size w w') : KeepT base w w' := fun g cur T _ hg _ => h.block g (Array.getElem?_eq_some_iff.1 hg).1
/-- outputs, each with a script of a marked block -/
def TOutC (w : World) (base : Nat) (c : List Value) (x : TOut) : Prop := ∃ s, c = [.int .u64 x.value, s] ∧ Ts w base 5 1 s x.script.length (byc x.script)
def TOuts (w : World) (base : Nat) (v : Value) (l : List TOut) : Prop := ∃ cs : List (List Value), Ts w base 34 2 v l.length cs.flatten ∧ (∀ c ∈ cs, c.length = 2) ∧ All2 (TOutC w base) cs l
theorem TOutC.kept {w w' : World} {base : Nat} {c x} (hk : KeepT base w w') (h : TOutC w base c x) : TOutC w' base c x := by
  obtain ⟨s, e, hs⟩ := h
  exact ⟨s, e, hk.ts hs (.inr (.inr (.inl rfl)))⟩
theorem TOuts.kept {w w' : World} {base : Nat} {v l} (hk : KeepT base w w') (h : TOuts w base v l) : TOuts w' base v l := by
  obtain ⟨cs, h1, h2, h3⟩ := h
  exact ⟨cs, hk.ts h1 (.inr (.inl rfl)), h2, h3.mono fun _ _ => TOutC.kept hk⟩
theorem TOuts.below {w w' : World} {base : Nat} {v l} (h : TOuts w base v l) (hb : Below w.heap.size w w') : TOuts w' base v l := h.kept (.of_below hb)
theorem TOuts.mono {w : World} {base b' : Nat} {v l} (h : TOuts w base v l) (hb : b' ≤ base) : TOuts w b' v l := by
  obtain ⟨cs, h1, h2, h3⟩ := h
  exact ⟨cs, h1.mono hb, h2, h3.mono fun _ _ ⟨s, e, hs⟩ => ⟨s, e, hs.mono hb⟩⟩
theorem TOuts.clip {w : World} {base n c : Nat} {a : Option Addr} {l} (h : TOuts w base (.slice a n c) l) : TOuts w base (.slice a l.length l.length) l := by
  obtain ⟨cs, h1, h2, h3⟩ := h
  exact ⟨cs, h1.clip, h2, h3⟩
theorem TOuts.ro {w : World} {base : Nat} {v l} (h : TOuts w base v l) : ROuts w v l := by
  obtain ⟨cs, h1, h2, h3⟩ := h
  exact ⟨cs, h1.rd, h2, h3.mono fun _ _ ⟨s, e, hs⟩ => ⟨s, e, hs.rd⟩⟩
def TIns (w : World) (base : Nat) (v : Value) (l : List TIn) : Prop := Ts w base 28 36 v l.length (l.flatMap inc)
theorem TIns.ri {w : World} {base : Nat} {v l} (h : TIns w base v l) : RIns w v l := Ts.rd h
theorem All2.snoc {α β : Type} {R : α → β → Prop} {l : List α} {m : List β} (h : All2 R l m) {a : α} {b : β} (hab : R a b) : All2 R (l ++ [a]) (m ++ [b]) := by
  induction h with
  | nil => exact .cons hab .nil
  | cons h _ ih => exact .cons h ih
theorem grew_other {w w' : World} {base c b' k' n' : Nat} {T' : TypeId} {v' : Value} {xs' : List Value} (hg : Grew c v' w w') (ho : w.ownsRow b' T' k' v' n' xs') : ∀ (g : Nat) (cur : Array Value) (T : TypeId), w.heap[g]? = some (.cells cur T (0, 0)) → T ≠ T' → w'.heap[g]? = w.heap[g]? := by
  intro g cur T hgc hT
  refine hg.block g (Array.getElem?_eq_some_iff.1 hgc).1 fun e => ?_
  obtain ⟨_, ⟨rfl, _⟩ | ⟨g', cap, cur', rfl, _, hg', _⟩⟩ := ho
  · simp [Value.ownBlock] at e
  · have : g' = g := by simpa [Value.ownBlock] using e
    subst this
    rw [hgc] at hg'
    simp at hg'
    exact hT hg'.2
end Go.Proofs.YtdpobhcpmpfioaaDoor

namespace Go.Proofs.YtdpobhcpmpfioaaDoor
open Go.RowKit

theorem inc_set33 (x : TIn) : (inc x).set 33 (.slice none 0 0) = inc x := by
  simp [inc, List.set_append, idc_length]
theorem inc_set35 (x : TIn) : (inc x).set 35 (.slice none 0 0) = inc x := by
  simp [inc, List.set_append, idc_length]

theorem own_kept {w w' : World} {base : Nat} {e : TypeId} {size n : Nat} {v : Value} {xs : List Value} (h : w.ownsRow base e size v n xs) (hk : ∀ g, v.ownBlock = some g → w'.heap[g]? = w.heap[g]?) : w'.ownsRow base e size v n xs := by
  obtain ⟨hl, h | ⟨g, cap, cur, rfl, hb, hg, r⟩⟩ := h
  · exact ⟨hl, .inl h⟩
  · exact ⟨hl, .inr ⟨g, cap, cur, rfl, hb, (hk g rfl).trans hg, r⟩⟩
set_option maxHeartbeats 4000000 in
set_option maxRecDepth 100000 in
theorem Still_ok (t : Tx) (i u : Value) (w : World) (hwf : TxWf t) (hi : RIns w i t.ins) (ho : ROuts w u t.outs) :
    Calls Tryd.prog 10 #[.agg (txc t i u).toArray] w fun e w' => ∃ i' u', e = .returned (.agg (txc t i' u').toArray) ∧ TIns w' w.heap.size i' t.ins ∧ TOuts w' w.heap.size u' t.outs ∧ Below w.heap.size w w' := by
  obtain ⟨ia, ic, rfl, hi1, hi2⟩ := Rd.form' hi
  obtain ⟨ua, uc, rfl, hu1, hu2⟩ := RSl.form ho
  have n2 := hwf.i2
  have n4 := hwf.o2
  have HS := Lib.hid hwf.os
  clear hwf
  go_enter Tryd.func10, Tryd.ntmps10
  obtain ⟨W, hW, b1, b2, hbW, hsW⟩ : ∃ W, (w.alloc (.cells #[.int .u32 t.version, .slice ia t.ins.length ic, .slice ua t.outs.length uc, .int .u32 t.lock] 32)).alloc (.cells #[.int .u32 0, .slice none 0 0, .slice none 0 0, .int .u32 0] 32) = W ∧
      HB W w.heap.size 32 (txc t (.slice ia t.ins.length ic) (.slice ua t.outs.length uc)) ∧ HB W (w.heap.size + 1) 32 [.int .u32 0, .slice none 0 0, .slice none 0 0, .int .u32 0] ∧ Below w.heap.size w W ∧ W.heap.size = w.heap.size + 2 := by
    refine ⟨_, rfl, HB.alloc (HB.new w 32 (txc t (.slice ia t.ins.length ic) (.slice ua t.outs.length uc))) _, ?_, ((Below.refl _ _).alloc (Nat.le_refl _) _).alloc (by simp) _, by simp⟩
    have := HB.new (w.alloc (.cells #[.int .u32 t.version, .slice ia t.ins.length ic, .slice ua t.outs.length uc, .int .u32 t.lock] 32)) 32 [.int .u32 0, .slice none 0 0, .slice none 0 0, .int .u32 0]
    simpa using this
  have hri := RIns.below hi hbW
  have hro := ROuts.below ho hbW
  clear hi ho
  have c1 : W.cell? ⟨w.heap.size, 1, none⟩ = some (.slice ia t.ins.length ic) := b1.cell rfl
  have c2 : W.cell? ⟨w.heap.size, 2, none⟩ = some (.slice ua t.outs.length uc) := b1.cell rfl
  go_wp2_with fail
  clear hW
  go_loopw [3, 15] (fun v j wr => ∃ (k : Nat) (vv : Value), vv = v ∧ k ≤ t.ins.length ∧ j = .int .i64 k ∧ wr.ownsRow W.heap.size 28 36 vv k ((t.ins.take k).flatMap inc) ∧ Below W.heap.size W wr) (fun _ j _ => t.ins.length - (intOf j).toNat)
  case atStart => exact ⟨0, _, rfl, Nat.zero_le _, rfl, World.ownsRow_nil _ _ _ _, Below.refl _ _⟩
  case round =>
    obtain ⟨k, v, hv, hk, rfl, hown, hbel⟩ := hrel
    subst hv
    by_cases hlt : k < t.ins.length
    · obtain ⟨b, off, c', he, _, _, hb, hat⟩ := Rd.at_ hri inc_length (by omega)
      obtain ⟨rfl, rfl⟩ : ia = some ⟨b, off, none⟩ ∧ ic = c' := by simpa using he
      have hr := range_belowB (hat k _ (List.getElem?_eq_getElem hlt)) hbel hb
      have hp : t.ins.take (k + 1) = t.ins.take k ++ [t.ins[k]] := List.take_succ_eq_append_getElem hlt
      have HP := Lib.hid hp; clear hp
      generalize t.ins[k] = x at HP hr
      have hsz := hbel.size
      have c33 := cell_new wr (inc x) 28 33 _ (inc_at x).2.1
      go_wp2_with (first
        | (with_reducible refine wpList_at 18 ?_; refine ldIn (.tmp 17) _ _ x rfl rfl rfl hr ?_)
        | (with_reducible refine wpList_at 5 ?_; refine asIn (.tmp 18) 5 x rfl rfl rfl rfl rfl rfl rfl rfl ?_; skip)
        | fail)
      have hbI : Below W.heap.size W (wr.alloc (.cells (inc x).toArray 28)) := hbel.alloc (by omega) _
      have hsI : (wr.alloc (.cells (inc x).toArray 28)).heap.size = wr.heap.size + 1 := by simp
      have hx := HB.new wr 28 (inc x)
      have hownI := hown.alloc (.cells (inc x).toArray 28)
      have hvg : ∀ b, v.ownBlock = some b → b ≠ wr.heap.size := fun b hb => Nat.ne_of_lt (hown.lt b hb).2
      generalize wr.alloc (.cells (inc x).toArray 28) = WI at *
      generalize hgq : wr.heap.size = g at *
      clear hgq hown hr hbel c33
      refine (CloneB0 WI).mono ?_
      rintro e w2 ⟨rfl, hb2⟩
      have hb3 := hbI.trans (hb2.mono hbI.size)
      have hx2 := hx.below hb2
      have ho2 := own_below hownI hb2
      have hgl := hx.lt
      clear hbI hb2 hx hownI
      have c33 := hx2.cell (inc_at x).2.1
      have f33 := hx2.frozen 33
      have c35 := ((hx2.set 33 (.slice none 0 0)).cell (j := 35) (by rw [inc_set33]; exact (inc_at x).2.2.2))
      go_wp2_with fail
      obtain ⟨w3, hww, hx3, ho3, hb4⟩ : ∃ w3, w2.setCell ⟨g, 33, none⟩ (.slice none 0 0) = w3 ∧ HB w3 g 28 (inc x) ∧ w3.ownsRow W.heap.size 28 36 v k ((t.ins.take k).flatMap inc) ∧ Below W.heap.size W w3 := by
        refine ⟨_, rfl, ?_, own_kept ho2 (fun b hb => Below.heap_setCell _ _ _ _ (hvg b hb)), Below.setCell hb3 (by simpa using hsz) _⟩
        have := hx2.set 33 (.slice none 0 0)
        rwa [inc_set33] at this
      rw [hww] at c35 ⊢
      clear hww hx2 ho2 hb3 c33 f33
      go_loopw [6, 26] (fun q j wr => q = .slice none 0 0 ∧ j = .int .i64 0 ∧ wr = w3) (fun _ _ _ => 0)
      case atStart => exact ⟨rfl, rfl, rfl⟩
      case round =>
        obtain ⟨rfl, rfl, rfl⟩ := hrel
        go_wp2_with fail
        refine (ClipBs0 _).mono ?_
        rintro e w4 ⟨rfl, hb5⟩
        have hx4 := hx3.below hb5
        have ho4 := own_below ho3 hb5
        have hb6 := hb4.trans (hb5.mono hb4.size)
        clear hx3 ho3 hb4 hb5 c35
        have c35 := hx4.cell (inc_at x).2.2.2
        have f35 := hx4.frozen 35
        obtain ⟨w5, hww, hx5, ho5, hb7⟩ : ∃ w5, w4.setCell ⟨g, 35, none⟩ (.slice none 0 0) = w5 ∧ HB w5 g 28 (inc x) ∧ w5.ownsRow W.heap.size 28 36 v k ((t.ins.take k).flatMap inc) ∧ Below W.heap.size W w5 := by
          refine ⟨_, rfl, ?_, own_kept ho4 (fun b hb => Below.heap_setCell _ _ _ _ (hvg b hb)), Below.setCell hb6 (by simpa using hsz) _⟩
          have := hx4.set 35 (.slice none 0 0)
          rwa [inc_set35] at this
        have r5 := hx5.range
        have hs5 := hb7.size
        go_wp2_with (first
          | (with_reducible refine wpList_at 40 ?_; refine ldIn (w := w5) (.tmp 5) _ _ x rfl rfl rfl r5 ?_)
          | (with_reducible refine wpList_at 41 ?_; refine apIn (.tmp 39) (.tmp 40) 41 W.heap.size v k _ x rfl rfl rfl rfl rfl rfl rfl rfl rfl (Gs.own ho5) (by omega) hs5 ?_; intro v' w1 hown' hg')
          | fail)
        go_roundw
        case rel =>
          refine ⟨k + 1, _, rfl, by omega, by go_num, ?_, hb7.trans (hg'.below hs5)⟩
          rw [HP.out]
          simpa using hown'
        case measure => simp [intOf]; omega
    · obtain rfl : k = t.ins.length := by omega
      have e1 : t.ins.take t.ins.length = t.ins := List.take_length
      rw [e1] at hown
      have f2 := Below.cellv hbel c2 (by show w.heap.size < _; omega)
      have hTI : TIns wr W.heap.size v t.ins := Ts.own hown
      clear hown
      generalize hq9 : wr = w9 at *
      clear hq9
      go_wp2_with fail
      go_loopw [9, 47] (fun q j wr => ∃ (k : Nat) (qq : Value) (cs : List (List Value)), qq = q ∧ k ≤ t.outs.length ∧ j = .int .i64 k ∧ wr.ownsRow W.heap.size 34 2 qq k cs.flatten ∧ (∀ c ∈ cs, c.length = 2) ∧ All2 (TOutC wr W.heap.size) cs (t.outs.take k) ∧
        TIns wr W.heap.size v t.ins ∧ Below W.heap.size W wr) (fun _ j _ => t.outs.length - (intOf j).toNat)
      case atStart => exact ⟨0, _, [], rfl, Nat.zero_le _, rfl, World.ownsRow_nil _ _ _ _, by simp, .nil, hTI, hbel⟩
      case round =>
        clear hTI hbel f2
        obtain ⟨k, q, cs, hq, hk, rfl, hown, hcl, hA, hTI, hbel⟩ := hrel
        subst hq
        by_cases hlt : k < t.outs.length
        · obtain ⟨b, off, c', he, _, _, hb, hat⟩ := RSl.at_ hro (by omega)
          obtain ⟨rfl, rfl⟩ : ua = some ⟨b, off, none⟩ ∧ uc = c' := by simpa using he
          obtain ⟨ec, _, ⟨s, rfl, hs⟩, hat⟩ := hat k _ (List.getElem?_eq_getElem hlt)
          have hr := range_belowB (o := off + k * 2) (cs := [.int .u64 t.outs[k].value, s]) (fun j u hu => hat j u hu) hbel hb
          have hs := Rd.below (RBy.rd hs) hbel
          have hsl := HS.out _ (List.getElem_mem hlt)
          have hp : t.outs.take (k + 1) = t.outs.take k ++ [t.outs[k]] := List.take_succ_eq_append_getElem hlt
          have HP := Lib.hid hp; clear hp hat
          generalize t.outs[k] = x at HP hr hs hsl
          have hsz := hbel.size
          have c1 := cell_new wr (outc x s) 34 1 s rfl
          have hss := hs.sl
          go_wp2_with (first
            | (with_reducible refine wpList_at 50 ?_; refine ldOut (.tmp 49) _ _ x s rfl rfl rfl hr ?_)
            | (with_reducible refine wpList_at 11 ?_; refine asOut (.tmp 50) 11 x s hss rfl rfl rfl rfl rfl rfl rfl rfl ?_)
            | fail)
          have hB : Below wr.heap.size wr (wr.alloc (.cells (outc x s).toArray 34)) := (Below.refl _ _).alloc (Nat.le_refl _) _
          have hx := HB.new wr 34 (outc x s)
          have hsI := hs.alloc (.cells (outc x s).toArray 34)
          have hsz1 : (wr.alloc (.cells (outc x s).toArray 34)).heap.size = wr.heap.size + 1 := by simp
          clear hs hr
          generalize wr.alloc (.cells (outc x s).toArray 34) = WI at *
          have h1s : ∀ u ∈ byc x.script, u.oneCell' = true := by
            intro u hu
            obtain ⟨n, _, rfl⟩ := List.mem_map.1 hu
            rfl
          refine (CloneB s x.script.length (byc x.script) WI hsI h1s (by omega)).mono ?_
          rintro e w2 ⟨v2, rfl, hv2, hb2⟩
          have hx2 := hx.below hb2
          have c1' := hx2.cell (j := 1) (v := s) rfl
          have f1' := hx2.frozen 1
          have hg := hx2.lt
          have hB2 := hB.trans (hb2.mono (by omega))
          obtain ⟨va, vc, hve, _, _⟩ := (Ts.own hv2).form
          obtain ⟨w3, hww, hx3, hv3, hB3⟩ : ∃ w3, w2.setCell ⟨wr.heap.size, 1, none⟩ v2 = w3 ∧ HB w3 wr.heap.size 34 (outc x v2) ∧ w3.ownsRow WI.heap.size 5 1 v2 x.script.length (byc x.script) ∧ Below wr.heap.size wr w3 :=
            ⟨_, rfl, hx2.set 1 v2, own_kept hv2 (fun b hb => Below.heap_setCell _ _ _ _ (by have := (hv2.lt b hb).1; show b ≠ wr.heap.size; omega)), Below.setCell hB2 (Nat.le_refl _) _⟩
          have hs3 := hB3.size
          have r3 := hx3.range
          subst hve
          have hsv : Sl (.slice va x.script.length vc) := ⟨_, _, _, rfl⟩
          clear hx2 hv2 hx hsI hB hb2 hB2 c1
          go_wp2_with (first
            | (with_reducible refine wpList_at 56 ?_; refine ldOut (w := w3) (.tmp 11) _ _ x _ rfl rfl rfl r3 ?_)
            | (with_reducible refine wpList_at 57 ?_; refine apOut (w := w3) (.tmp 55) (.tmp 56) 57 W.heap.size q k _ x _ hsv rfl rfl rfl rfl rfl rfl rfl rfl rfl (Gs.own (own_below hown hB3)) (by omega) (by omega) ?_; intro v' w1 hown' hg')
            | fail)
          have ho2 := own_below hown hB3
          have hv3' := own_mono hv3 (b' := W.heap.size) (by omega)
          go_roundw
          case rel =>
            refine ⟨k + 1, v', cs ++ [outc x (.slice va x.script.length vc)], rfl, by omega, by go_num, by simpa using hown', ?_, ?_, Ts.grew (Ts.below hTI hB3) hg' ho2 (by decide), hbel.trans ((hB3.mono hsz).trans (hg'.below (by omega)))⟩
            · intro c hc
              rcases List.mem_append.1 hc with h | h
              · exact hcl c h
              · simp at h; subst h; rfl
            · rw [HP.out]
              exact All2.snoc (hA.mono fun c y ⟨s, e, hs⟩ => ⟨s, e, Ts.grew (Ts.below hs hB3) hg' ho2 (by decide)⟩) ⟨_, rfl, Ts.grew (Ts.own hv3') hg' ho2 (by decide)⟩
          case measure => simp [intOf]; omega
        · obtain rfl : k = t.outs.length := by omega
          have e2 : t.outs.take t.outs.length = t.outs := List.take_length
          rw [e2] at hA
          have hTO : TOuts wr W.heap.size q t.outs := ⟨cs, Ts.own hown, hcl, hA⟩
          clear hown hA hcl
          obtain ⟨va, vc, rfl, hv1, hv2⟩ := Ts.form hTI
          obtain ⟨qa, qc, rfl, hq1, hq2⟩ : ∃ a c, q = .slice a t.outs.length c ∧ t.outs.length ≤ c ∧ c ≤ 9223372036854775807 := by obtain ⟨_, h, _⟩ := hTO; exact h.form
          go_wp2_with fail
          refine (ClipIn va _ vc wr hv1 hv2).mono ?_
          rintro e w1 ⟨rfl, rfl⟩
          go_wp2_with fail
          refine (ClipOut qa _ qc wr hq1 hq2).mono ?_
          rintro e w1 ⟨rfl, rfl⟩
          have hT1 : TIns wr W.heap.size _ t.ins := Ts.clip hTI
          have hT2 := hTO.clip
          have g1 := b1.belowB hbel (by omega)
          have g2 := b2.belowB hbel (by omega)
          have k1 := g1.cell (j := 1) rfl
          have k1f := g1.frozen 1
          have G1 := g1.set 1 (.slice va t.ins.length t.ins.length)
          have k2 := G1.cell (j := 2) rfl
          have k2f := G1.frozen 2
          have G2 := G1.set 2 (.slice qa t.outs.length t.outs.length)
          have B2 : Below (w.heap.size) wr ((wr.setCell ⟨w.heap.size, 1, none⟩ (.slice va t.ins.length t.ins.length)).setCell ⟨w.heap.size, 2, none⟩ (.slice qa t.outs.length t.outs.length)) := by
            refine Below.setCell (Below.setCell (Below.refl _ _) ?_ _) ?_ _ <;> simp
          have g3 := (g2.other ⟨w.heap.size, 1, none⟩ (.slice va t.ins.length t.ins.length) (by simp)).other ⟨w.heap.size, 2, none⟩ (.slice qa t.outs.length t.outs.length) (by simp)
          have hsame : ∀ k, k ≠ w.heap.size → ((wr.setCell ⟨w.heap.size, 1, none⟩ (.slice va t.ins.length t.ins.length)).setCell ⟨w.heap.size, 2, none⟩ (.slice qa t.outs.length t.outs.length)).heap[k]? = wr.heap[k]? := fun k hk => (Below.heap_setCell _ _ _ _ hk).trans (Below.heap_setCell _ _ _ _ hk)
          have r2 : World.rangeAt _ w.heap.size 0 (txc t (.slice va t.ins.length t.ins.length) (.slice qa t.outs.length t.outs.length)) := G2.range
          have h1T := all_oneCell_toArray (txc_one t (show Sl (.slice va t.ins.length t.ins.length) from ⟨_, _, _, rfl⟩) (show Sl (.slice qa t.outs.length t.outs.length) from ⟨_, _, _, rfl⟩))
          generalize hwS : (wr.setCell ⟨w.heap.size, 1, none⟩ (.slice va t.ins.length t.ins.length)).setCell ⟨w.heap.size, 2, none⟩ (.slice qa t.outs.length t.outs.length) = wS at *
          go_wp2_with (first
            | (with_reducible refine wpList_at 66 ?_; refine ldTx (w := wS) (.tmp 1) _ _ t _ _ rfl rfl rfl r2 ?_)
            | (with_reducible refine wpList_atS 2 ?_; refine wpList_store_row rfl 32 (.tmp 2) (.tmp 66) rfl _ (txc t (.slice va t.ins.length t.ins.length) (.slice qa t.outs.length t.outs.length)).toArray rfl rfl _ _ g3.hp (by simpa using szTx) rfl h1T ?_)
            | fail)
          try simp only [Exit.inBlock, Exit.then]
          have hK : KeepT W.heap.size wr (wS.setRow (w.heap.size + 1) (txc t (.slice va t.ins.length t.ins.length) (.slice qa t.outs.length t.outs.length)).toArray) := fun g cur T hg _ _ => (setRow_other _ _ _ _ (by omega)).trans (hsame g (by omega))
          refine bodyPost_ret (results_cell_row rfl _ _ (w.heap.size + 1) _ _ (0, 0) _ rfl (g3.setRow (txc t (.slice va t.ins.length t.ins.length) (.slice qa t.outs.length t.outs.length))) Tryd.underlying32 rfl (by simpa using szTx)) rfl ?_
          exact ⟨_, _, rfl, (hK.ts hT1 (.inl rfl)).mono (by omega), (hT2.kept hK).mono (by omega), hbW.trans ((hbel.mono (by omega)).trans (Below.setRow B2 (by omega) _))⟩
end Go.Proofs.YtdpobhcpmpfioaaDoor

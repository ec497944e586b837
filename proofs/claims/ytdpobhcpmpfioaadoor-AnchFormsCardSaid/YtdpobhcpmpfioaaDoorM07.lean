import Derived.Test.YtdpobhcpmpfioaaDoorM03
import Derived.Deep.RegionHeld3
set_option linter.all false
set_option linter.unusedVariables false
set_option linter.unusedSimpArgs false
namespace Go.Proofs.YtdpobhcpmpfioaaDoor
open Go.RowKit

def inB (x : TIn) : List Int := x.prev.1 ++ le x.vout 4 ++ cnt 0 ++ le x.seq 4
def outB (x : TOut) : List Int := le x.value 8 ++ cnt x.script.length ++ x.script
def bodyB (t : Tx) : List Int := cnt t.ins.length ++ t.ins.flatMap inB ++ cnt t.outs.length ++ t.outs.flatMap outB
def baseB (t : Tx) : List Int := le t.version 4 ++ bodyB t ++ le t.lock 4

/-- a number that fits 32 bits -/
def W32 (n : Int) : Prop := 0 ≤ n ∧ n < 4294967296
theorem W32.lo {n : Int} (h : W32 n) : 0 ≤ n := h.1
theorem W32.hi {n : Int} (h : W32 n) : n < 4294967296 := h.2
structure TxWf (t : Tx) : Prop where
  i1 : 1 ≤ t.ins.length
  i2 : t.ins.length ≤ 50
  o1 : 1 ≤ t.outs.length
  o2 : t.outs.length ≤ 50
  v : W32 t.version
  l : W32 t.lock
  iv : ∀ x ∈ t.ins, W32 x.vout ∧ W32 x.seq
  os : ∀ x ∈ t.outs, x.script.length ≤ 500

theorem cnt_len (n : Nat) : (cnt n).length ≤ 3 := by unfold cnt; split <;> simp
theorem inB_len (x : TIn) : (inB x).length ≤ 43 := by
  have := cnt_len 0
  simp [inB, x.prev.2]; omega
theorem outB_len (x : TOut) (h : x.script.length ≤ 500) : (outB x).length ≤ 511 := by
  have := cnt_len x.script.length
  simp [outB]; omega
theorem flatMap_len {α : Type} (f : α → List Int) (n : Nat) : ∀ l : List α, (∀ x ∈ l, (f x).length ≤ n) → (l.flatMap f).length ≤ l.length * n
  | [], _ => by simp
  | x :: r, h => by
    have h1 := h x (by simp)
    have h2 := flatMap_len f n r (fun y hy => h y (by simp [hy]))
    simp only [List.flatMap_cons, List.length_append, List.length_cons, Nat.add_mul]
    omega
theorem bodyB_len {t : Tx} (h : TxWf t) : (bodyB t).length ≤ 30000 := by
  have h1 := flatMap_len inB 43 t.ins (fun x _ => inB_len x)
  have h2 := flatMap_len outB 511 t.outs (fun x hx => outB_len x (h.os x hx))
  have h3 := cnt_len t.ins.length
  have h4 := cnt_len t.outs.length
  have h5 := h.i2
  have h6 := h.o2
  have : t.ins.length * 43 ≤ 50 * 43 := Nat.mul_le_mul_right _ h5
  have : t.outs.length * 511 ≤ 50 * 511 := Nat.mul_le_mul_right _ h6
  simp only [bodyB, List.length_append]; omega

/-- the box of a transaction -/
theorem box_tx (w : World) (t : Tx) (i u : Value) : ∃ W, w.alloc (.cells (txc t i u).toArray 32) = W ∧ W.cell? ⟨w.heap.size, 0, none⟩ = some (.int .u32 t.version) ∧ W.cell? ⟨w.heap.size, 1, none⟩ = some i ∧
    W.cell? ⟨w.heap.size, 2, none⟩ = some u ∧ W.cell? ⟨w.heap.size, 3, none⟩ = some (.int .u32 t.lock) ∧ Below w.heap.size w W ∧ w.heap.size < W.heap.size :=
  ⟨_, rfl, cell_new w (txc t i u) _ 0 _ rfl, cell_new w (txc t i u) _ 1 _ rfl, cell_new w (txc t i u) _ 2 _ rfl, cell_new w (txc t i u) _ 3 _ rfl, (Below.refl _ _).alloc (Nat.le_refl _) _, by simp⟩
theorem Below.cellv {B : Nat} {w w' : World} (h : Below B w w') {p : Addr} {v : Value} (hc : w.cell? p = some v) (hp : p.block < B) : w'.cell? p = some v := (h.cell hp).trans hc
theorem Grew.cellv {base : Nat} {v u : Value} {w w' : World} (h : Grew base v w w') {p : Addr} (hc : w.cell? p = some u) (hne : v.ownBlock ≠ some p.block) : w'.cell? p = some u :=
  (World.cell?_of_block (h.block p.block (World.block_lt_of_cell? w _ hc) hne)).trans hc
theorem own_ne_new {w : World} {base e size n : Nat} {v : Value} {xs : List Value} (h : w.ownsRow base e size v n xs) (k : Nat) (hk : w.heap.size ≤ k) : v.ownBlock ≠ some k := fun e => by
  have := (h.lt k e).2; omega

set_option maxRecDepth 100000 in
theorem body_ok (v : Value) (l : List Int) (t : Tx) (i u : Value) (w : World) (hwf : TxWf t) (h : RBy w v l) (hi : RIns w i t.ins) (ho : ROuts w u t.outs) (hl : l.length ≤ 1000) :
    Calls Tryd.prog 38 #[v, .agg (txc t i u).toArray] w fun e w' => ∃ v', e = .returned v' ∧ OB w' w.heap.size v' (l ++ bodyB t) ∧ Below w.heap.size w w' := by
  obtain ⟨ia, ic, rfl, hi1, hi2⟩ := Rd.form' hi
  obtain ⟨ua, uc, rfl, hu1, hu2⟩ := RSl.form ho
  have HW := Lib.hid hwf
  have n1 := hwf.i2
  have n2 := hwf.o2
  clear hwf
  go_enter Tryd.func38, Tryd.ntmps38
  obtain ⟨W, hW, c0, c1, c2, c3, hbW, hsW⟩ := box_tx w t (.slice ia t.ins.length ic) (.slice ua t.outs.length uc)
  have hv := RBy.below h hbW
  have hri := RIns.below hi hbW
  have hro := ROuts.below ho hbW
  clear h hi ho
  go_wp2_with fail
  refine (Count_ok v l t.ins.length W hv (by omega) (by omega)).mono ?_
  rintro e w1 ⟨v1, rfl, ho1, hb1⟩
  clear hW
  obtain ⟨HB, hHB⟩ : ∃ HB, HB = W.heap.size := ⟨_, rfl⟩
  rw [← hHB] at ho1 hb1 hsW
  generalize hBq : w.heap.size = B at *
  have hBa : w.heap.size ≤ B := by omega
  have hBb : B ≤ w.heap.size := by omega
  clear hBq
  have hB1 : HB ≤ W.heap.size := by omega
  have hB2 : W.heap.size ≤ HB := by omega
  have hl2 : ∀ k, (l ++ cnt t.ins.length ++ (t.ins.take k).flatMap inB).length ≤ 4000 := fun k => by
    have h1 := flatMap_len inB 43 (t.ins.take k) (fun x _ => inB_len x)
    have h2 : (t.ins.take k).length ≤ 50 := Nat.le_trans (List.length_take_le' _ _) n1
    have : (t.ins.take k).length * 43 ≤ 50 * 43 := Nat.mul_le_mul_right _ h2
    have := cnt_len t.ins.length
    rw [List.length_append, List.length_append]; omega
  have d1 := Below.cellv hb1 c1 hsW
  have d2 := Below.cellv hb1 c2 hsW
  have HC := Lib.hid hl2
  clear c0 c3 hv hHB hl2 c1
  go_wp2_with fail
  go_loopw [0, 17] (fun v j wr => ∃ k : Nat, k ≤ t.ins.length ∧ j = .int .i64 k ∧ OB wr HB v (l ++ cnt t.ins.length ++ (t.ins.take k).flatMap inB) ∧ Below HB W wr)
    (fun _ j _ => t.ins.length - (intOf j).toNat)
  case atStart => exact ⟨0, Nat.zero_le _, rfl, by simpa using ho1, hb1⟩
  case round =>
    obtain ⟨k, hk, rfl, hown, hbel⟩ := hrel
    by_cases hlt : k < t.ins.length
    · obtain ⟨b, off, c', he, _, _, hb, hat⟩ := Rd.at_ hri inc_length (by omega)
      obtain ⟨rfl, rfl⟩ : ia = some ⟨b, off, none⟩ ∧ ic = c' := by simpa using he
      have hr := range_belowB (hat k _ (List.getElem?_eq_getElem hlt)) hbel (by omega)
      have hp : (t.ins.take (k + 1)).flatMap inB = (t.ins.take k).flatMap inB ++ inB t.ins[k] := by
        rw [List.take_succ_eq_append_getElem hlt, List.flatMap_append, List.flatMap_singleton]
      have hx := HW.out.iv _ (List.getElem_mem hlt)
      have HP := Lib.hid hp; clear hp
      have HX := Lib.hid hx; clear hx
      generalize t.ins[k] = x at HP hr HX
      have c32 := cell_new wr (inc x) 28 32 _ (inc_at x).1
      have c33 := cell_new wr (inc x) 28 33 _ (inc_at x).2.1
      have c34 := cell_new wr (inc x) 28 34 _ (inc_at x).2.2.1
      have hsz := hbel.size
      go_wp2_with (first
        | (with_reducible refine wpList_at 20 ?_; refine ldIn (.tmp 19) _ _ x rfl rfl rfl hr ?_)
        | (with_reducible refine wpList_at 6 ?_; refine asIn (.tmp 20) 6 x rfl rfl rfl rfl rfl rfl rfl rfl ?_)
        | fail)
      have hbI : Below HB W (wr.alloc (.cells (inc x).toArray 28)) := hbel.alloc (by omega) _
      have hszI : wr.heap.size < (wr.alloc (.cells (inc x).toArray 28)).heap.size := by simp
      have rI := heap_alloc_new wr (.cells (inc x).toArray 28)
      have hownI := OB.alloc hown (.cells (inc x).toArray 28)
      have hne := own_ne_new hown _ (Nat.le_refl _)
      generalize hWI : wr.alloc (.cells (inc x).toArray 28) = WI at *
      generalize wr.heap.size = BI at *
      clear hWI
      have hidc : Rd WI 5 1 (.slice (some ⟨BI, 0, none⟩) 32 32) 32 (idc x.prev) := Rd.of_block rI (.inr (by unfold okTag; decide)) (by simp) (by omega) (fun j u hu => by simpa using inc_prev x j u hu)
      have hlen := HC.out k
      have hix : (idc x.prev) = byc x.prev.1 := rfl
      have x32 : x.prev.1.length = 32 := x.prev.2
      have hl3 : (l ++ cnt t.ins.length ++ (t.ins.take k).flatMap inB ++ x.prev.1).length ≤ 900000 := by rw [List.length_append]; omega
      have v0 := HX.out.1.lo
      have V1 := Lib.hid HX.out.1.hi
      go_region_held3 (fun w' => w'.cell? ⟨BI, 32, none⟩ = some (.int .u32 x.vout) ∧ w'.cell? ⟨BI, 33, none⟩ = some (.slice none 0 0) ∧ w'.cell? ⟨BI, 34, none⟩ = some (.int .u32 x.seq) ∧ Below HB W w')
        (first | exact ⟨by simpa using c32, by simpa using c33, by simpa using c34, hbI.drew⟩ | exact ⟨by assumption, by assumption, by assumption, by assumption⟩)
        (first
          | (refine sapsU8 (.tmp 21) (.tmp 23) HB u0 _ _ (.slice (some ⟨BI, 0, none⟩) 32 32) 32 (idc x.prev) rfl rfl rfl rfl (OB.gs (w := WI.drew) hownI) (Rd.below hidc (Below.refl _ _).drew) (idc_one _) (by omega) (by show HB ≤ WI.heap.size; omega) ?_; intro v2 w2 _ ho2 hg2 _; have ho2' := OB.mk_app (ho2 (by omega)) hix x32; have k1 := hg2.cellv (u := .int .u32 x.vout) (p := ⟨BI, 32, none⟩) (by simpa using c32) hne; have k1b := hg2.cellv (u := .slice none 0 0) (p := ⟨BI, 33, none⟩) (by simpa using c33) hne; have k1c := hg2.cellv (u := .int .u32 x.seq) (p := ⟨BI, 34, none⟩) (by simpa using c34) hne; have b1 := hbI.drew.trans (hg2.below (by show HB ≤ WI.heap.size; omega)))
          | (go_at_call 37; refine (Small_ok v2 _ x.vout w2 ho2'.rby hl3 v0 V1.out).mono ?_; rintro e w3 ⟨v3, rfl, ho3, hb3⟩; have k2 := Below.cellv hb3 k1 (World.block_lt_of_cell? _ _ k1); have k2b := Below.cellv hb3 k1b (World.block_lt_of_cell? _ _ k1b); have k2c := Below.cellv hb3 k1c (World.block_lt_of_cell? _ _ k1c); have b2 := b1.trans (hb3.mono (Nat.le_trans hB1 b1.size))))
      have ho3' := ho3.low (Nat.le_trans hB1 b1.size)
      clear c32 c33 c34 hne k1 k1b k1c b1 hb3 ho3 ho2 ho2' hg2 k2 rI hidc hbI hownI hszI
      have hn3 : RBy w3 (.slice none 0 0) [] := Rd.nil _ _ _
      have v4 := HX.out.2.lo
      have V4 := Lib.hid HX.out.2.hi
      have l4 : (l ++ cnt t.ins.length ++ (t.ins.take k).flatMap inB ++ x.prev.1 ++ le x.vout 4).length ≤ 700000 := by rw [List.length_append, List.length_append]; simp only [le_length]; omega
      have l5 : (l ++ cnt t.ins.length ++ (t.ins.take k).flatMap inB ++ x.prev.1 ++ le x.vout 4 ++ cnt ([] : List Int).length ++ []).length ≤ 900000 := by have := cnt_len ([] : List Int).length; rw [List.append_nil, List.length_append]; omega
      go_wp2_with fail
      go_region_held3 (fun w' => w'.cell? ⟨BI, 33, none⟩ = some (.slice none 0 0) ∧ w'.cell? ⟨BI, 34, none⟩ = some (.int .u32 x.seq) ∧ Below HB W w')
        (first | exact ⟨by simpa using k2b, by simpa using k2c, b2.drew⟩ | exact ⟨by assumption, by assumption, by assumption⟩)
        (first
          | (go_at_call 41; refine (counted_ok v3 _ _ [] w3.drew (RBy.below ho3'.rby (Below.refl _ _).drew) hn3 l4 (by simp)).mono ?_; rintro e w4 ⟨v4, rfl, ho4, hb4⟩; have k4b := Below.cellv hb4 k2b (World.block_lt_of_cell? _ _ k2b); have k4c := Below.cellv hb4 k2c (World.block_lt_of_cell? _ _ k2c); have b4 := b2.drew.trans (hb4.mono (Nat.le_trans hB1 b2.size)))
          | (go_at_call 37; refine (Small_ok v4 _ x.seq w4 ho4.rby l5 (by assumption) V4.out).mono ?_; rintro e w5 ⟨v5, rfl, ho5, hb5⟩; have k5b := Below.cellv hb5 k4b (World.block_lt_of_cell? _ _ k4b); have k5c := Below.cellv hb5 k4c (World.block_lt_of_cell? _ _ k4c); have b5 := b4.trans (hb5.mono (Nat.le_trans hB1 b4.size))))
      have ho5' := ho5.low (Nat.le_trans hB1 b4.size)
      clear hn3 l4 l5 k2b k2c k4b k4c k5b k5c hb4 hb5 ho4 ho5 b4 b2 ho3'
      go_wp2_with fail
      go_roundw
      case rel =>
        refine ⟨k + 1, by omega, by go_num, ?_, b5⟩
        rw [HP.out]
        simpa [inB] using ho5'
      case measure => simp [intOf]; omega
    · obtain rfl : k = t.ins.length := by omega
      have e1 : t.ins.take t.ins.length = t.ins := List.take_length
      rw [e1] at hown
      have hlen := HC.out t.ins.length
      rw [e1] at hlen
      have f2 := Below.cellv hbel c2 hsW
      go_wp2_with fail
      refine (Count_ok u0 _ t.outs.length wr hown.rby (by omega) (by omega)).mono ?_
      rintro e w2 ⟨v2, rfl, ho2, hb2⟩
      have g2 := Below.cellv hb2 f2 (World.block_lt_of_cell? _ _ f2)
      have bW2 := hbel.trans (hb2.mono (Nat.le_trans hB1 hbel.size))
      have ho2' := ho2.low (Nat.le_trans hB1 hbel.size)
      generalize hL : l ++ cnt t.ins.length ++ t.ins.flatMap inB ++ cnt t.outs.length = L at *
      have hL1 : L.length ≤ 4010 := by rw [← hL, List.length_append]; have := cnt_len t.outs.length; omega
      have HL := Lib.hid hL
      have hO : ∀ k, ((t.outs.take k).flatMap outB).length ≤ 30000 := fun k => by
        have h1 := flatMap_len outB 511 (t.outs.take k) (fun x hx => outB_len x (HW.out.os x (List.mem_of_mem_take hx)))
        have h2 : (t.outs.take k).length ≤ 50 := Nat.le_trans (List.length_take_le' _ _) n2
        have : (t.outs.take k).length * 511 ≤ 50 * 511 := Nat.mul_le_mul_right _ h2
        omega
      have HO := Lib.hid hO
      clear hL hown hlen e1 f2 hb2 ho2 hbel d2 hO hb1 ho1
      go_wp2_with fail
      go_loopw [0, 44] (fun v j wr => ∃ k : Nat, k ≤ t.outs.length ∧ j = .int .i64 k ∧ OB wr HB v (L ++ (t.outs.take k).flatMap outB) ∧ Below HB W wr)
        (fun _ j _ => t.outs.length - (intOf j).toNat)
      case atStart => exact ⟨0, Nat.zero_le _, rfl, by simpa using ho2', bW2⟩
      case round =>
        obtain ⟨k, hk, rfl, hown, hbel⟩ := hrel
        by_cases hlt : k < t.outs.length
        · obtain ⟨b, off, c', he, _, _, hb, hat⟩ := RSl.at_ hro (by omega)
          obtain ⟨rfl, rfl⟩ : ua = some ⟨b, off, none⟩ ∧ uc = c' := by simpa using he
          obtain ⟨ec, _, ⟨s, rfl, hsx⟩, hr0⟩ := hat k _ (List.getElem?_eq_getElem hlt)
          have hr := range_belowB (B := HB) (w' := wr) (o := off + k * 2) (fun j u hu => hr0 j u hu) hbel (by omega)
          have hp : (t.outs.take (k + 1)).flatMap outB = (t.outs.take k).flatMap outB ++ outB t.outs[k] := by
            rw [List.take_succ_eq_append_getElem hlt, List.flatMap_append, List.flatMap_singleton]
          have HX := Lib.hid (HW.out.os _ (List.getElem_mem hlt))
          have HP := Lib.hid hp; clear hp
          generalize t.outs[k] = x at HP hr HX hsx hr0
          have c50 := cell_new wr (outc x s) 34 0 _ rfl
          have c51 := cell_new wr (outc x s) 34 1 _ rfl
          have hsz := hbel.size
          have hsl := RBy.sl hsx
          go_wp2_with (first
            | (with_reducible refine wpList_at 47 ?_; refine ldOut (.tmp 46) _ _ x s rfl rfl rfl hr ?_)
            | (with_reducible refine wpList_at 8 ?_; refine asOut (.tmp 47) 8 x s hsl rfl rfl rfl rfl rfl rfl rfl rfl ?_)
            | fail)
          have hbI : Below HB W (wr.alloc (.cells (outc x s).toArray 34)) := hbel.alloc (by omega) _
          have hownI := OB.alloc hown (.cells (outc x s).toArray 34)
          have hsxI : RBy (wr.alloc (.cells (outc x s).toArray 34)) s x.script := RBy.below hsx (hbI.mono hB2)
          generalize hWI : wr.alloc (.cells (outc x s).toArray 34) = WI at *
          generalize wr.heap.size = BI at *
          clear hWI hr hr0 hat hsx
          have hlen := HO.out k
          have l1 : (L ++ (t.outs.take k).flatMap outB).length ≤ 900000 := by rw [List.length_append]; omega
          have l2 : (L ++ (t.outs.take k).flatMap outB ++ le x.value 8).length ≤ 700000 := by rw [List.length_append, List.length_append]; simp only [le_length]; omega
          go_region_held3 (fun w' => w'.cell? ⟨BI, 0, none⟩ = some (.int .u64 x.value) ∧ w'.cell? ⟨BI, 1, none⟩ = some s ∧ Below HB W w')
            (first | exact ⟨by simpa using c50, by simpa using c51, hbI.drew⟩ | exact ⟨by assumption, by assumption, by assumption⟩)
            (first
              | (go_at_call 55; refine (Big_ok u0 _ x.value WI.drew (RBy.below hownI.rby (Below.refl _ _).drew) l1).mono ?_; rintro e w3 ⟨v3, rfl, ho3, hb3⟩; have k3 := Below.cellv hb3 c50 (World.block_lt_of_cell? _ _ c50); have k3b := Below.cellv hb3 c51 (World.block_lt_of_cell? _ _ c51); have b3 := hbI.drew.trans (hb3.mono (Nat.le_trans hB1 hbI.size)); have s3 := RBy.below hsxI (Below.trans (Below.drew (Below.refl _ _)) hb3))
              | (go_at_call 41; refine (counted_ok v3 s _ x.script w3 ho3.rby s3 l2 (by have := HX.out; omega)).mono ?_; rintro e w4 ⟨v4, rfl, ho4, hb4⟩; have k4 := Below.cellv hb4 k3 (World.block_lt_of_cell? _ _ k3); have k4b := Below.cellv hb4 k3b (World.block_lt_of_cell? _ _ k3b); have b4 := b3.trans (hb4.mono (Nat.le_trans hB1 b3.size))))
          have ho4' := ho4.low (Nat.le_trans hB1 b3.size)
          clear k3 k3b k4 k4b b3 s3 hb3 hb4 ho3 ho4 c50 c51 hownI hsxI hbI
          go_wp2_with fail
          go_roundw
          case rel =>
            refine ⟨k + 1, by omega, by go_num, ?_, b4⟩
            rw [HP.out]
            simpa [outB] using ho4'
          case measure => simp [intOf]; omega
        · obtain rfl : k = t.outs.length := by omega
          have e1 : t.outs.take t.outs.length = t.outs := List.take_length
          rw [e1] at hown
          go_wp2_with fail
          go_ret
          refine ⟨_, rfl, ?_, (hbW.trans (hbel.mono (by omega))).mono hBa⟩
          have := hown.low (b' := w.heap.size) (by omega)
          rw [← HL.out] at this
          simpa [bodyB] using this
end Go.Proofs.YtdpobhcpmpfioaaDoor

namespace Go.Proofs.YtdpobhcpmpfioaaDoor
open Go.RowKit

theorem long_ok (v : Value) (l : List Int) (w : World) (h : RBy w v l) (hl : l.length ≤ 500) :
    Calls Tryd.prog 52 #[v] w fun e w' => e = .returned (.bool false) ∧ Below w.heap.size w w' := by
  obtain ⟨a, c, rfl, h1, h2⟩ := Rd.form' h
  have hd : decide ((l.length : Int) > 500) = false := decide_eq_false (by omega)
  have HD := Lib.hid hd
  clear hd
  go_enter Tryd.func52, Tryd.ntmps52
  go_wp2_with fail
  go_ret
  exact ⟨by rw [← HD.out]; rfl, Below.refl _ _⟩

theorem IndexFuncB0 (g : Value) (w : World) :
    Calls Tryd.prog 65 #[.slice none 0 0, g] w fun e w' => e = .returned (.int .i64 (-1)) ∧ Below w.heap.size w w' := by
  go_enter Tryd.func65, Tryd.ntmps65
  go_wp2_with fail
  go_loopw [8] (fun j wr => j = .int .i64 0 ∧ Below w.heap.size w wr) (fun j _ => 0)
  case atStart => exact ⟨rfl, Below.refl _ _⟩
  case round =>
    obtain ⟨rfl, hb⟩ := hrel
    go_wp2_with fail
    go_ret
    exact ⟨rfl, hb⟩
theorem ContainsFuncB0 (g : Value) (w : World) :
    Calls Tryd.prog 53 #[.slice none 0 0, g] w fun e w' => e = .returned (.bool false) ∧ Below w.heap.size w w' := by
  go_enter Tryd.func53, Tryd.ntmps53
  go_wp2_with fail
  refine (IndexFuncB0 _ w).mono ?_
  rintro e w1 ⟨rfl, hb1⟩
  go_wp2_with fail
  go_ret
  exact ⟨rfl, hb1⟩

set_option maxRecDepth 100000 in
theorem wit1_ok (x : TIn) (w : World) : Calls Tryd.prog 57 (#[.agg (inc x).toArray] ++ #[]) w fun e w' => e = .returned (.bool false) ∧ Below w.heap.size w w' := by
  go_enter Tryd.func57, Tryd.ntmps57
  obtain ⟨W, hW, c35, hb⟩ : ∃ W, w.alloc (.cells (inc x).toArray 28) = W ∧ W.cell? ⟨w.heap.size, 35, none⟩ = some (.slice none 0 0) ∧ Below w.heap.size w W :=
    ⟨_, rfl, cell_new w (inc x) 28 35 _ (inc_at x).2.2.2, (Below.refl _ _).alloc (Nat.le_refl _) _⟩
  go_wp2_with fail
  go_ret
  exact ⟨rfl, hb⟩

set_option maxRecDepth 100000 in
theorem witnessed_ok (t : Tx) (i u : Value) (w : World) (hwf : TxWf t) (hi : RIns w i t.ins) :
    Calls Tryd.prog 39 #[.agg (txc t i u).toArray] w fun e w' => e = .returned (.bool false) ∧ Below w.heap.size w w' := by
  obtain ⟨ia, ic, rfl, hi1, hi2⟩ := Rd.form' hi
  have n2 := hwf.i2
  clear hwf
  go_enter Tryd.func39, Tryd.ntmps39
  obtain ⟨W, hW, c0, c1, c2, c3, hbW, hsW⟩ := box_tx w t (.slice ia t.ins.length ic) u
  have hri := RIns.below hi hbW
  have hc := ContainsFuncIn _ t.ins (fun _ => false) 57 #[] W hri (by omega) (fun args w => by rfl) (fun W x _ _ => wit1_ok x W)
  have HC := Lib.hid hc
  clear hc
  go_wp2_with fail
  refine HC.out.mono ?_
  rintro e w1 ⟨rfl, hb1⟩
  go_wp2_with fail
  go_ret
  exact ⟨by simp, hbW.trans (hb1.mono (by omega))⟩

set_option maxRecDepth 100000 in
theorem May_ok (t : Tx) (i u : Value) (w : World) (hwf : TxWf t) (hi : RIns w i t.ins) (ho : ROuts w u t.outs) :
    Calls Tryd.prog 36 #[.agg (txc t i u).toArray] w fun e w' => e = .returned (.bool true) ∧ Below w.heap.size w w' := by
  obtain ⟨ia, ic, rfl, hi1, hi2⟩ := Rd.form' hi
  obtain ⟨ua, uc, rfl, hu1, hu2⟩ := RSl.form ho
  have n1 := hwf.i1
  have n2 := hwf.i2
  have n3 := hwf.o1
  have n4 := hwf.o2
  have HS := Lib.hid hwf.os
  clear hwf
  go_enter Tryd.func36, Tryd.ntmps36
  obtain ⟨W, hW, c0, c1, c2, c3, hbW, hsW⟩ := box_tx w t (.slice ia t.ins.length ic) (.slice ua t.outs.length uc)
  have hri := RIns.below hi hbW
  have hro := ROuts.below ho hbW
  clear hi ho c0 c3
  go_wp2_with fail
  clear hW
  go_loopw [10] (fun j wr => ∃ k : Nat, k ≤ t.ins.length ∧ j = .int .i64 k ∧ Below W.heap.size W wr) (fun j _ => t.ins.length - (intOf j).toNat)
  case atStart => exact ⟨0, Nat.zero_le _, rfl, Below.refl _ _⟩
  case round =>
    obtain ⟨k, hk, rfl, hbel⟩ := hrel
    by_cases hlt : k < t.ins.length
    · obtain ⟨b, off, c', he, _, _, hb, hat⟩ := Rd.at_ hri inc_length (by omega)
      obtain ⟨rfl, rfl⟩ : ia = some ⟨b, off, none⟩ ∧ ic = c' := by simpa using he
      have hr := range_belowB (hat k _ (List.getElem?_eq_getElem hlt)) hbel hb
      generalize t.ins[k] = x at hr
      have c34 := cell_new wr (inc x) 28 33 _ (inc_at x).2.1
      have c35 := cell_new wr (inc x) 28 35 _ (inc_at x).2.2.2
      have hsz := hbel.size
      go_wp2_with (first
        | (with_reducible refine wpList_at 13 ?_; refine ldIn (.tmp 12) _ _ x rfl rfl rfl hr ?_)
        | (with_reducible refine wpList_at 4 ?_; refine asIn (.tmp 13) 4 x rfl rfl rfl rfl rfl rfl rfl rfl ?_)
        | fail)
      have hbI : Below W.heap.size W (wr.alloc (.cells (inc x).toArray 28)) := hbel.alloc (by omega) _
      generalize hWI : wr.alloc (.cells (inc x).toArray 28) = WI at *
      clear hWI
      have hn3 : RBy WI (.slice none 0 0) [] := Rd.nil _ _ _
      refine (long_ok _ [] WI hn3 (by simp)).mono ?_
      rintro e w2 ⟨rfl, hb2⟩
      have k35 := Below.cellv hb2 c35 (World.block_lt_of_cell? _ _ c35)
      have hbI2 := hbI.trans (hb2.mono hbI.size)
      go_wp2_with fail
      refine (ContainsFuncB0 _ w2).mono ?_
      rintro e w3 ⟨rfl, hb3⟩
      have hbI3 := hbI2.trans (hb3.mono hbI2.size)
      go_wp2_with fail
      go_roundw
      case rel => exact ⟨k + 1, by omega, by go_num, hbI3⟩
      case measure => simp [intOf]; omega
    · obtain rfl : k = t.ins.length := by omega
      have f2 := Below.cellv hbel c2 hsW
      have f1 := Below.cellv hbel c1 hsW
      go_wp2_with fail
      go_loopw [32] (fun j w2 => ∃ k : Nat, k ≤ t.outs.length ∧ j = .int .i64 k ∧ Below W.heap.size W w2) (fun j _ => t.outs.length - (intOf j).toNat)
      case atStart => exact ⟨0, Nat.zero_le _, rfl, hbel⟩
      case round =>
        obtain ⟨k, hk, rfl, hbel2⟩ := hrel
        by_cases hlt : k < t.outs.length
        · obtain ⟨b, off, c', he, _, _, hb, hat⟩ := RSl.at_ hro (by omega)
          obtain ⟨rfl, rfl⟩ : ua = some ⟨b, off, none⟩ ∧ uc = c' := by simpa using he
          obtain ⟨ec, _, ⟨s, rfl, hsx⟩, hr0⟩ := hat k _ (List.getElem?_eq_getElem hlt)
          have hr := range_belowB (B := W.heap.size) (w' := wr) (o := off + k * 2) (fun j u hu => hr0 j u hu) hbel2 (by omega)
          have HX := Lib.hid (HS.out _ (List.getElem_mem hlt))
          generalize t.outs[k] = x at hr HX hsx hr0
          have c51 := cell_new wr (outc x s) 34 1 _ rfl
          have hsz := hbel2.size
          have hsl := RBy.sl hsx
          go_wp2_with (first
            | (with_reducible refine wpList_at 35 ?_; refine ldOut (.tmp 34) _ _ x s rfl rfl rfl hr ?_)
            | (with_reducible refine wpList_at 6 ?_; refine asOut (.tmp 35) 6 x s hsl rfl rfl rfl rfl rfl rfl rfl rfl ?_)
            | fail)
          have hbI : Below W.heap.size W (wr.alloc (.cells (outc x s).toArray 34)) := hbel2.alloc (by omega) _
          have hsxI : RBy (wr.alloc (.cells (outc x s).toArray 34)) s x.script := RBy.below hsx hbI
          generalize hWI : wr.alloc (.cells (outc x s).toArray 34) = WI at *
          clear hWI
          refine (long_ok _ _ WI hsxI HX.out).mono ?_
          rintro e w2 ⟨rfl, hb2⟩
          have hbI2 := hbI.trans (hb2.mono hbI.size)
          go_wp2_with fail
          go_roundw
          case rel => exact ⟨k + 1, by omega, by go_num, hbI2⟩
          case measure => simp [intOf]; omega
        · have g2 := Below.cellv hbel2 c2 hsW
          have g1 := Below.cellv hbel2 c1 hsW
          have D1 := Lib.hid (show decide ((t.ins.length : Int) ≥ 1) = true from decide_eq_true (by omega))
          have D2 := Lib.hid (show decide ((t.ins.length : Int) ≤ 50) = true from decide_eq_true (by omega))
          have D3 := Lib.hid (show decide ((t.outs.length : Int) ≥ 1) = true from decide_eq_true (by omega))
          have D4 := Lib.hid (show decide ((t.outs.length : Int) ≤ 50) = true from decide_eq_true (by omega))
          go_wp2_with fail
          go_ret
          exact ⟨by rw [← D4.out]; rfl, hbW.trans (hbel2.mono (by omega))⟩
end Go.Proofs.YtdpobhcpmpfioaaDoor

namespace Go.Proofs.YtdpobhcpmpfioaaDoor
open Go.RowKit

set_option maxRecDepth 100000 in
theorem Base_ok (t : Tx) (i u : Value) (w : World) (hwf : TxWf t) (hi : RIns w i t.ins) (ho : ROuts w u t.outs) :
    Calls Tryd.prog 27 #[.agg (txc t i u).toArray] w fun e w' => ∃ v', e = .returned v' ∧ OB w' w.heap.size v' (baseB t) ∧ Below w.heap.size w w' := by
  have HW := Lib.hid hwf
  clear hwf
  obtain ⟨ia, ic, rfl, hi1, hi2⟩ := Rd.form' hi
  obtain ⟨ua, uc, rfl, hu1, hu2⟩ := RSl.form ho
  go_enter Tryd.func27, Tryd.ntmps27
  obtain ⟨W, hW, c0, c1, c2, c3, hbW, hsW⟩ := box_tx w t (.slice ia t.ins.length ic) (.slice ua t.outs.length uc)
  have hri := RIns.below hi hbW
  have hro := ROuts.below ho hbW
  clear hi ho
  go_wp2_with fail
  clear hW
  refine (May_ok t _ _ W HW.out hri hro).mono ?_
  rintro e w1 ⟨rfl, hb1⟩
  have d0 := Below.cellv hb1 c0 hsW
  have d1 := Below.cellv hb1 c1 hsW
  have d2 := Below.cellv hb1 c2 hsW
  have d3 := Below.cellv hb1 c3 hsW
  have hn := Rd.nil w1 5 1
  have v0 := HW.out.v.lo
  have V1 := Lib.hid HW.out.v.hi
  have l0 := HW.out.l.lo
  have L1 := Lib.hid HW.out.l.hi
  go_wp2_with fail
  have hn : RBy w1.drew (.slice none 0 0) [] := Rd.nil _ _ _
  go_region_held3 (fun w' => w'.cell? ⟨w.heap.size, 0, none⟩ = some (.int .u32 t.version) ∧ w'.cell? ⟨w.heap.size, 1, none⟩ = some (.slice ia t.ins.length ic) ∧ w'.cell? ⟨w.heap.size, 2, none⟩ = some (.slice ua t.outs.length uc) ∧ w'.cell? ⟨w.heap.size, 3, none⟩ = some (.int .u32 t.lock) ∧ Below W.heap.size W w')
    (first | exact ⟨by simpa using d0, by simpa using d1, by simpa using d2, by simpa using d3, hb1.drew⟩ | exact ⟨by assumption, by assumption, by assumption, by assumption, by assumption⟩)
    (first
      | (go_at_call 38; refine (body_ok v2 _ t _ _ w2 HW.out ho2.rby (RIns.below hri b2) (ROuts.below hro b2) (by simp)).mono ?_; rintro e w3 ⟨v3, rfl, ho3, hb3⟩; have f0 := Below.cellv hb3 e0 (World.block_lt_of_cell? _ _ e0); have f1 := Below.cellv hb3 e1 (World.block_lt_of_cell? _ _ e1); have f2 := Below.cellv hb3 e2 (World.block_lt_of_cell? _ _ e2); have f3 := Below.cellv hb3 e3 (World.block_lt_of_cell? _ _ e3); have b3 := b2.trans (hb3.mono b2.size); have ho3' := own_mono ho3 b2.size)
      | (go_at_call 37; first
          | (refine (Small_ok (.slice none 0 0) [] t.version w1.drew hn (by simp) v0 V1.out).mono ?_; rintro e w2 ⟨v2, rfl, ho2, hb2⟩; have e0 := Below.cellv hb2 (w := w1.drew) (by simpa using d0) (World.block_lt_of_cell? _ _ d0); have e1 := Below.cellv hb2 (w := w1.drew) (by simpa using d1) (World.block_lt_of_cell? _ _ d1); have e2 := Below.cellv hb2 (w := w1.drew) (by simpa using d2) (World.block_lt_of_cell? _ _ d2); have e3 := Below.cellv hb2 (w := w1.drew) (by simpa using d3) (World.block_lt_of_cell? _ _ d3); have b2 := hb1.drew.trans (hb2.mono (by simpa using hb1.size)))
          | (refine (Small_ok v3 _ t.lock w3 ho3.rby (by have := bodyB_len HW.out; simp; omega) l0 L1.out).mono ?_; rintro e w4 ⟨v4, rfl, ho4, hb4⟩; have g0 := Below.cellv hb4 f0 (World.block_lt_of_cell? _ _ f0); have g1 := Below.cellv hb4 f1 (World.block_lt_of_cell? _ _ f1); have g2 := Below.cellv hb4 f2 (World.block_lt_of_cell? _ _ f2); have g3 := Below.cellv hb4 f3 (World.block_lt_of_cell? _ _ f3); have b4 := b3.trans (hb4.mono b3.size))))
  have ho4' := ho4.low (b' := w.heap.size) (by have := b3.size; omega)
  go_wp2_with fail
  go_ret
  exact ⟨_, rfl, by simpa [baseB] using ho4', hbW.trans (b4.mono (by omega))⟩

set_option maxRecDepth 100000 in
theorem Bytes_ok (t : Tx) (i u : Value) (w : World) (hwf : TxWf t) (hi : RIns w i t.ins) (ho : ROuts w u t.outs) :
    Calls Tryd.prog 28 #[.agg (txc t i u).toArray] w fun e w' => ∃ v', e = .returned v' ∧ OB w' w.heap.size v' (baseB t) ∧ Below w.heap.size w w' := by
  have HW := Lib.hid hwf
  clear hwf
  obtain ⟨ia, ic, rfl, hi1, hi2⟩ := Rd.form' hi
  obtain ⟨ua, uc, rfl, hu1, hu2⟩ := RSl.form ho
  go_enter Tryd.func28, Tryd.ntmps28
  obtain ⟨W, hW, c0, c1, c2, c3, hbW, hsW⟩ := box_tx w t (.slice ia t.ins.length ic) (.slice ua t.outs.length uc)
  have hri := RIns.below hi hbW
  have hro := ROuts.below ho hbW
  clear hi ho
  go_wp2_with fail
  clear hW
  refine (May_ok t _ _ W HW.out hri hro).mono ?_
  rintro e w1 ⟨rfl, hb1⟩
  have d0 := Below.cellv hb1 c0 hsW
  have d1 := Below.cellv hb1 c1 hsW
  have d2 := Below.cellv hb1 c2 hsW
  have d3 := Below.cellv hb1 c3 hsW
  go_wp2_with fail
  refine (witnessed_ok t _ _ w1 HW.out (RIns.below hri hb1)).mono ?_
  rintro e w2 ⟨rfl, hb2'⟩
  have e0 := Below.cellv hb2' d0 (World.block_lt_of_cell? _ _ d0)
  have e1 := Below.cellv hb2' d1 (World.block_lt_of_cell? _ _ d1)
  have e2 := Below.cellv hb2' d2 (World.block_lt_of_cell? _ _ d2)
  have e3 := Below.cellv hb2' d3 (World.block_lt_of_cell? _ _ d3)
  have hb2 := hb1.trans (hb2'.mono hb1.size)
  clear hb2' d0 d1 d2 d3 c0 c1 c2 c3
  go_wp2_with fail
  refine (Base_ok t _ _ w2 HW.out (RIns.below hri hb2) (ROuts.below hro hb2)).mono ?_
  rintro e w3 ⟨v3, rfl, ho3, hb3⟩
  have hb4 := hb2.trans (hb3.mono hb2.size)
  have ho3' := ho3.low (b' := w.heap.size) (by have := hb2.size; omega)
  go_wp2_with fail
  go_ret
  exact ⟨_, rfl, ho3', hbW.trans (hb4.mono (by omega))⟩
end Go.Proofs.YtdpobhcpmpfioaaDoor

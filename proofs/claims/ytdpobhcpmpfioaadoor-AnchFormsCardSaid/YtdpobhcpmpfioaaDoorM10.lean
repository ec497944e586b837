import Derived.Test.YtdpobhcpmpfioaaDoorM04
import Derived.Test.YtdpobhcpmpfioaaDoorM09
import Derived.Deep.DeepCutAuto
import Derived.Deep.QuietTactic
import Derived.BigQuiet
set_option linter.all false
set_option linter.unusedVariables false
set_option linter.unusedSimpArgs false
namespace Go.Proofs.YtdpobhcpmpfioaaDoor
open Go.RowKit

def rnd (a b c d e f g h k x : Int) : List Int :=
  [(h + bits .xor .u32 (bits .xor .u32 (rotI e 6) (rotI e 11)) (rotI e 25) + bits .xor .u32 (bits .and .u32 e f) (bits .and .u32 (bits .xor .u32 IntKind.u32.max e) g) + k + x +
      bits .xor .u32 (bits .xor .u32 (rotI a 2) (rotI a 13)) (rotI a 22) + bits .xor .u32 (bits .xor .u32 (bits .and .u32 a b) (bits .and .u32 a c)) (bits .and .u32 b c)) % 4294967296, a, b, c,
    (d + (h + bits .xor .u32 (bits .xor .u32 (rotI e 6) (rotI e 11)) (rotI e 25) + bits .xor .u32 (bits .and .u32 e f) (bits .and .u32 (bits .xor .u32 IntKind.u32.max e) g) + k + x)) % 4294967296, e, f, g]
def rndL (V : List Int) (k x : Int) : List Int :=
  match V with
  | [a, b, c, d, e, f, g, h] => rnd a b c d e f g h k x
  | _ => []
def mixN (S H : List Int) : Nat → List Int
  | 0 => H
  | n + 1 => rndL (mixN S H n) (cubesL.getD n 0) (S.getD n 0)
def addN (V H : List Int) : Nat → List Int
  | 0 => V
  | n + 1 => (addN V H n).set n (((addN V H n).getD n 0 + H.getD n 0) % 4294967296)
@[simp] theorem addN_length (V H : List Int) (n : Nat) : (addN V H n).length = V.length := by
  induction n with
  | zero => rfl
  | succ n ih => simp [addN, ih]
def mixI (H B : List Int) : List Int := addN (mixN (spreadI B) H 64) H 8
theorem mixI_eq (H B : List Int) : mixI H B = addN (mixN (spreadI B) H 64) H 8 := rfl
theorem mixN_succ (S H : List Int) (n : Nat) : mixN S H (n + 1) = rndL (mixN S H n) (cubesL.getD n 0) (S.getD n 0) := rfl
theorem addN_succ (S H : List Int) (n : Nat) : addN S H (n + 1) = (addN S H n).set n (((addN S H n).getD n 0 + H.getD n 0) % 4294967296) := rfl
attribute [irreducible] mixI mixN addN
theorem mix_step {S H : List Int} {n : Nat} {a b c d e f g h k x X Y : Int} (h0 : Hid (mixN S H n = [a, b, c, d, e, f, g, h])) (hk : Hid (cubesL.getD n 0 = k)) (hx : Hid (S.getD n 0 = x))
    (he : rnd a b c d e f g h k x = [X, a, b, c, Y, e, f, g]) : Hid (mixN S H (n + 1) = [X, a, b, c, Y, e, f, g]) := by
  refine Lib.hid ?_
  rw [mixN_succ, h0.out, hk.out, hx.out]
  exact he
/-- what lies in the world in the midst of mix -/
structure MI (w wr : World) (g5 g6 : Nat) (H S V : List Int) : Prop where
  a0 : WA .u32 wr w.heap.size 91 H
  a4 : WA .u32 wr (w.heap.size + 1) 91 (List.replicate 8 0)
  w5 : WA .u32 wr g5 104 S
  w6 : WA .u32 wr g6 91 V
  b : Below w.heap.size w wr
  g : WL wr 1 cubesL
theorem below_drewN {B : Nat} {a w : World} (h : Below B a w) (n : Nat) : Below B a (w.drewN n) := h.trans ⟨rfl, rfl, rfl, Nat.le_refl _, fun _ _ => rfl⟩
theorem MI.drewN {w wr : World} {g5 g6 : Nat} {H S V : List Int} (h : MI w wr g5 g6 H S V) (n : Nat) : MI w (wr.drewN n) g5 g6 H S V := ⟨h.a0, h.a4, h.w5, h.w6, below_drewN h.b n, h.g⟩
theorem MI.setRow {w wr : World} {g5 g6 : Nat} {H S V V' : List Int} (h : MI w wr g5 g6 H S V) (h1 : w.heap.size + 2 ≤ g6) (h2 : g5 ≠ g6) (hc : 1 < w.heap.size) : MI w (wr.setRow g6 (kc .u32 V').toArray) g5 g6 H S V' :=
  ⟨h.a0.setRowOther _ _ (by omega), h.a4.setRowOther _ _ (by omega), h.w5.setRowOther _ _ h2, h.w6.setRow _, Below.setRow h.b (by omega) _, h.g.setRowOther _ _ (by omega)⟩
theorem MI.setCell {w wr : World} {g5 g6 : Nat} {H S V : List Int} (h : MI w wr g5 g6 H S V) (h1 : w.heap.size + 2 ≤ g6) (h2 : g5 ≠ g6) (hc : 1 < w.heap.size) (j : Nat) (x : Int) : MI w (wr.setCell ⟨g6, j, none⟩ (.int .u32 x)) g5 g6 H S (V.set j x) :=
  ⟨h.a0.other _ _ (by simp; omega), h.a4.other _ _ (by simp; omega), h.w5.other _ _ h2, h.w6.set _ _, Below.setCell h.b (by simp; omega) _, h.g.other _ _ (by simp; omega)⟩
def mixFr (H : Value) (b off c n : Nat) (x5 x6 x14 x15 x16 : Value) : Act :=
  ⟨(([H, .slice (some ⟨b, off, none⟩) 64 c, .pointer (some ⟨n, 0, none⟩), undef, .pointer (some ⟨n + 1, 0, none⟩), x5, x6, undef, undef, undef, undef, undef, undef, undef, x14, x15, x16] : List Value) ++ List.replicate 104 undef).toArray, []⟩
theorem zz64 : (Tryd.prog.info? 104).map (fun i => (i.zero, i.size)) = some (some (.agg (kc .u32 (List.replicate 64 0)).toArray), 64) := by kernel_rfl
theorem zz8 : (Tryd.prog.info? 91).map (fun i => (i.zero, i.size)) = some (some (.agg (kc .u32 (List.replicate 8 0)).toArray), 8) := by kernel_rfl
theorem WA.c8 {k : IntKind} {w : World} {g : Nat} {T : TypeId} {a b c d e f g' h : Int} (H : WA k w g T [a, b, c, d, e, f, g', h]) :
    w.cell? ⟨g, 0, none⟩ = some (.int k a) ∧ w.cell? ⟨g, 1, none⟩ = some (.int k b) ∧ w.cell? ⟨g, 2, none⟩ = some (.int k c) ∧ w.cell? ⟨g, 3, none⟩ = some (.int k d) ∧
    w.cell? ⟨g, 4, none⟩ = some (.int k e) ∧ w.cell? ⟨g, 5, none⟩ = some (.int k f) ∧ w.cell? ⟨g, 6, none⟩ = some (.int k g') ∧ w.cell? ⟨g, 7, none⟩ = some (.int k h) :=
  ⟨H.cell (j := 0) (by simp), H.cell (j := 1) (by simp), H.cell (j := 2) (by simp), H.cell (j := 3) (by simp), H.cell (j := 4) (by simp), H.cell (j := 5) (by simp), H.cell (j := 6) (by simp), H.cell (j := 7) (by simp)⟩
set_option maxHeartbeats 8000000 in
set_option maxRecDepth 100000 in
theorem mix_ok (b off c : Nat) (h0 h1 h2 h3 h4 h5 h6 h7 : Int) (B : List Int) (w : World) (hB : B.length = 64) (hb : ∀ j < 64, w.cell? ⟨b, off + j, none⟩ = some (.int .u8 (B.getD j 0))) (hc : 64 ≤ c) (hlt0 : b < w.heap.size)
    (hGL : GL w) :
    Calls Tryd.prog 51 #[.agg #[.int .u32 h0, .int .u32 h1, .int .u32 h2, .int .u32 h3, .int .u32 h4, .int .u32 h5, .int .u32 h6, .int .u32 h7], .slice (some ⟨b, off, none⟩) 64 c] w fun e w' => e = .returned (.agg (kc .u32 (mixI [h0, h1, h2, h3, h4, h5, h6, h7] B)).toArray) ∧ Below w.heap.size w w' := by
  have HB := Lib.hid hb
  have hgc := hGL.1
  clear hGL
  clear hb
  go_enter Tryd.func51, Tryd.ntmps51
  go_upto_region 1 with fail
  go_cut [5, 6] (fun x5 x6 wx => ∃ g5 g6 : Nat, x5 = .pointer (some ⟨g5, 0, none⟩) ∧ x6 = .pointer (some ⟨g6, 0, none⟩) ∧ g5 ≠ g6 ∧ w.heap.size + 2 ≤ g5 ∧ w.heap.size + 2 ≤ g6 ∧ WA .u32 wx g5 104 (spreadI B) ∧ WA .u32 wx g6 91 [h0, h1, h2, h3, h4, h5, h6, h7] ∧ Below (w.heap.size + 2) ((w.alloc (.cells (kc .u32 [h0, h1, h2, h3, h4, h5, h6, h7]).toArray 91)).alloc (.cells (kc .u32 (List.replicate 8 0)).toArray 91)) wx)
  case first =>
    have a0 := WA.new .u32 w 91 [h0, h1, h2, h3, h4, h5, h6, h7]
    have a0 := a0.alloc (.cells (kc .u32 (List.replicate 8 0)).toArray 91)
    have hsz : ((w.alloc (.cells (kc .u32 [h0, h1, h2, h3, h4, h5, h6, h7]).toArray 91)).alloc (.cells (kc .u32 (List.replicate 8 0)).toArray 91)).heap.size = w.heap.size + 2 := by simp
    have hbB := (((Below.refl w.heap.size w).alloc (Nat.le_refl _) (.cells (kc .u32 [h0, h1, h2, h3, h4, h5, h6, h7]).toArray 91))).alloc (by simp) (.cells (kc .u32 (List.replicate 8 0)).toArray 91)
    change Code.wp _ _ _ _ ((w.alloc (.cells (kc .u32 [h0, h1, h2, h3, h4, h5, h6, h7]).toArray 91)).alloc (.cells (kc .u32 (List.replicate 8 0)).toArray 91))
    generalize hW : (w.alloc (.cells (kc .u32 [h0, h1, h2, h3, h4, h5, h6, h7]).toArray 91)).alloc (.cells (kc .u32 (List.replicate 8 0)).toArray 91) = W at *
    have hb1 : b < W.heap.size := by omega
    have hc1 : Hid (∀ W', Below (w.heap.size + 2) W W' → Calls Tryd.prog 63 #[.slice (some ⟨b, off, none⟩) 64 c] W' fun e w' => e = .returned (.agg (kc .u32 (spreadI B)).toArray) ∧ Below W'.heap.size W' w') := by
      refine Lib.hid fun W' hW' => spread_ok b off c B W' hB (fun j hj => cellB hW' (cellB hbB (HB.out j hj) hlt0) (show b < _ by omega)) hc ?_
      have := hW'.size; omega
    clear hW hlt0 HB
    have hb2 : Below w.heap.size w W.drew := hbB.drew
    have z64 : (Tryd.prog.info? 104).map (fun i => (i.zero, i.size)) = some (some (.agg (kc .u32 (List.replicate 64 0)).toArray), 64) := zz64
    have z8 : (Tryd.prog.info? 91).map (fun i => (i.zero, i.size)) = some (some (.agg (kc .u32 (List.replicate 8 0)).toArray), 8) := zz8
    have hS := spreadI_length B
    generalize spreadI B = S at *
    refine region_inv (by rfl) (fun L a x => ∃ l0 l1 l2 l3 l4 l5 l6 : Bool, ∃ x5 x6 x14 x15 x16 : Value, ∃ g5 g6 : Nat,
      L = #[l0, l1, l2, l3, l4, l5, l6] ∧ a = mixFr (.agg #[.int .u32 h0, .int .u32 h1, .int .u32 h2, .int .u32 h3, .int .u32 h4, .int .u32 h5, .int .u32 h6, .int .u32 h7]) b off c w.heap.size x5 x6 x14 x15 x16 ∧ WA .u32 x w.heap.size 91 [h0, h1, h2, h3, h4, h5, h6, h7] ∧ Below (w.heap.size + 2) W x ∧
      (x14 = if l0 then .slice (some ⟨b, off, none⟩) 64 c else undef) ∧ (l1 = true → x15 = .agg (kc .u32 S).toArray) ∧ (l2 = true → x16 = .agg (kc .u32 [h0, h1, h2, h3, h4, h5, h6, h7]).toArray) ∧
      (l3 = true → x5 = .pointer (some ⟨g5, 0, none⟩) ∧ w.heap.size + 2 ≤ g5 ∧ WA .u32 x g5 104 (if l5 then S else List.replicate 64 0)) ∧
      (l4 = true → x6 = .pointer (some ⟨g6, 0, none⟩) ∧ w.heap.size + 2 ≤ g6 ∧ WA .u32 x g6 91 (if l6 then [h0, h1, h2, h3, h4, h5, h6, h7] else List.replicate 8 0)) ∧
      (l3 = true → l4 = true → g5 ≠ g6) ∧ (l5 = true → l3 = true) ∧ (l6 = true → l4 = true)) ?_ ?_ ?_ ?_
    · rintro L a x i ⟨l0, l1, l2, l3, l4, l5, l6, x5, x6, x14, x15, x16, g5, g6, hL, hA, ha, hbx, p0, p1, p2, p3, p4, p5, p6, p7⟩ hi
      subst hL hA
      obtain ⟨hi7, hli, o, ho, hed⟩ := ready_mem hi
      have hi7 : i < 7 := hi7
      have hcase : i = 0 ∨ i = 1 ∨ i = 2 ∨ i = 3 ∨ i = 4 ∨ i = 5 ∨ i = 6 := by omega
      have hszx := hbx.size
      rcases hcase with rfl | rfl | rfl | rfl | rfl | rfl | rfl
      · refine wpOp_of rfl rfl (wp_move (.tmp 1) rfl ?_)
        exact ⟨true, l1, l2, l3, l4, l5, l6, x5, x6, _, x15, x16, g5, g6, rfl, rfl, ha, hbx, rfl, p1, p2, p3, p4, p5, p6, p7⟩
      · obtain rfl : _ = o := by simpa using ho
        have e0 : l0 = true := hed ⟨0, .data⟩ (by simp) rfl
        subst e0
        obtain rfl := p0
        refine wpOp_of rfl rfl ?_
        refine wp_callFn 63 (.tmp 14) 25 rfl _ rfl (fun _ _ => rfl) ((hc1.out x hbx).mono ?_)
        rintro e w1 ⟨rfl, hb3⟩
        refine ⟨_, rfl, true, true, l2, l3, l4, l5, l6, x5, x6, _, _, x16, g5, g6, rfl, rfl, ha.below hb3, hbx.trans (hb3.mono (by omega)), rfl, fun _ => rfl, p2, fun h => ⟨(p3 h).1, (p3 h).2.1, (p3 h).2.2.below hb3⟩, fun h => ⟨(p4 h).1, (p4 h).2.1, (p4 h).2.2.below hb3⟩, p5, p6, p7⟩
      · refine wpOp_of rfl rfl (wp_load_row 91 (.tmp 2) rfl w.heap.size rfl 91 _ (0, 0) _ ha.hp Tryd.underlying91 rfl sz8 ?_)
        exact ⟨l0, l1, true, l3, l4, l5, l6, x5, x6, x14, x15, _, g5, g6, rfl, rfl, ha, hbx, p0, p1, fun _ => rfl, p3, p4, p5, p6, p7⟩
      · have e3 : l3 = false := by simpa using hli
        subst e3
        have e5 : l5 = false := by
          cases l5 with
          | false => rfl
          | true => exact (p6 rfl).symm
        subst e5
        refine wpOp_of rfl rfl (wp_alloc 104 rfl 64 _ z64 ?_)
        exact ⟨l0, l1, l2, true, l4, false, l6, _, x6, x14, x15, x16, x.heap.size, g6, rfl, rfl, ha.alloc _, hbx.alloc (by omega) _, p0, p1, p2, fun _ => ⟨rfl, by omega, WA.new _ _ _ _⟩,
          fun h => ⟨(p4 h).1, (p4 h).2.1, (p4 h).2.2.alloc _⟩, fun _ h => by have := (p4 h).2.2.lt; omega, nofun, p7⟩
      · have e4 : l4 = false := by simpa using hli
        subst e4
        have e6 : l6 = false := by
          cases l6 with
          | false => rfl
          | true => exact (p7 rfl).symm
        subst e6
        refine wpOp_of rfl rfl (wp_alloc 91 rfl 8 _ z8 ?_)
        exact ⟨l0, l1, l2, l3, true, l5, false, x5, _, x14, x15, x16, g5, x.heap.size, rfl, rfl, ha.alloc _, hbx.alloc (by omega) _, p0, p1, p2, fun h => ⟨(p3 h).1, (p3 h).2.1, (p3 h).2.2.alloc _⟩,
          fun _ => ⟨rfl, by omega, WA.new _ _ _ _⟩, fun h _ => by have := (p3 h).2.2.lt; omega, p6, nofun⟩
      · obtain rfl : _ = o := by simpa using ho
        have e1 : l1 = true := hed ⟨1, .data⟩ (by simp) rfl
        have e3 : l3 = true := hed ⟨3, .data⟩ (by simp) rfl
        have e5 : l5 = false := by simpa using hli
        subst e1 e3 e5
        obtain ⟨rfl, hg5, hw5⟩ := p3 rfl
        obtain rfl := p1 rfl
        refine wpOp_of rfl rfl (wp_store_row 104 (.tmp 5) (.tmp 15) rfl g5 _ rfl rfl _ _ hw5.hp (by simpa [hS] using sz64) (by simp [hS]) (kc_one _ _) ?_)
        exact ⟨l0, true, l2, true, l4, true, l6, _, x6, x14, _, x16, g5, g6, rfl, rfl, ha.setRowOther _ _ (by omega), Below.setRow hbx hg5 _, p0, fun _ => rfl, p2, fun _ => ⟨rfl, hg5, hw5.setRow _⟩,
          fun h => ⟨(p4 h).1, (p4 h).2.1, (p4 h).2.2.setRowOther _ _ (Ne.symm (p5 rfl h))⟩, p5, fun _ => rfl, p7⟩
      · obtain rfl : _ = o := by simpa using ho
        have e2 : l2 = true := hed ⟨2, .data⟩ (by simp) rfl
        have e4 : l4 = true := hed ⟨4, .data⟩ (by simp) rfl
        have e6 : l6 = false := by simpa using hli
        subst e2 e4 e6
        obtain ⟨rfl, hg6, hw6⟩ := p4 rfl
        obtain rfl := p2 rfl
        refine wpOp_of rfl rfl (wp_store_row 91 (.tmp 6) (.tmp 16) rfl g6 _ rfl rfl _ _ hw6.hp (by simpa using sz8) (by simp) (kc_one _ _) ?_)
        exact ⟨l0, l1, true, l3, true, l5, true, x5, _, x14, x15, _, g5, g6, rfl, rfl, ha.setRowOther _ _ (by omega), Below.setRow hbx hg6 _, p0, p1, fun _ => rfl, fun h => ⟨(p3 h).1, (p3 h).2.1, (p3 h).2.2.setRowOther _ _ (p5 h rfl)⟩,
          fun _ => ⟨rfl, hg6, hw6.setRow _⟩, p5, p6, fun _ => rfl⟩
    · rintro L a x ⟨l0, l1, l2, l3, l4, l5, l6, x5, x6, x14, x15, x16, g5, g6, hL, hA, ha, hbx, p0, p1, p2, p3, p4, p5, p6, p7⟩ hr
      subst hL hA
      have hall : (l0 && l1 && l2 && l3 && l4 && l5 && l6) = true := by
        clear ha hbx p0 p1 p2 p3 p4 p5 p6 p7
        revert hr
        revert l0 l1 l2 l3 l4 l5 l6
        decide +kernel
      simp only [Bool.and_eq_true] at hall
      obtain ⟨⟨⟨⟨⟨⟨rfl, rfl⟩, rfl⟩, rfl⟩, rfl⟩, rfl⟩, rfl⟩ := hall
      obtain rfl := p0
      obtain rfl := p1 rfl
      obtain rfl := p2 rfl
      obtain ⟨rfl, hg5, hw5⟩ := p3 rfl
      obtain ⟨rfl, hg6, hw6⟩ := p4 rfl
      have hne := p5 rfl rfl
      clear hr p1 p2 p3 p4 p5 p6 p7
      simp only [mixFr, List.replicate_succ, List.replicate_zero, List.cons_append, List.nil_append]
      go_wp2_with fail
      go_meet
      case rel =>
        exact ⟨g5, g6, rfl, rfl, hne, hg5, hg6, by simpa only [if_true] using hw5, by simpa only [if_true] using hw6, hbx⟩
    · rintro L a x ⟨l0, l1, l2, l3, l4, l5, l6, x5, x6, x14, x15, x16, g5, g6, hL, hA, _⟩
      subst hL
      rfl
    · exact ⟨false, false, false, false, false, false, false, undef, undef, undef, undef, undef, 0, 0, rfl, rfl, a0, (Below.refl _ _).drew, rfl, nofun, nofun, nofun, nofun, nofun, nofun, nofun⟩
  case rest =>
    obtain ⟨g5, g6, rfl, rfl, hne, hg5, hg6, hw5, hw6, hbx⟩ := hcut
    have q0 := (WA.new .u32 w 91 [h0, h1, h2, h3, h4, h5, h6, h7]).alloc (.cells (kc .u32 (List.replicate 8 0)).toArray 91)
    have q4 := WA.new .u32 (w.alloc (.cells (kc .u32 [h0, h1, h2, h3, h4, h5, h6, h7]).toArray 91)) 91 (List.replicate 8 0)
    have hsz1 : (w.alloc (.cells (kc .u32 [h0, h1, h2, h3, h4, h5, h6, h7]).toArray 91)).heap.size = w.heap.size + 1 := by simp
    rw [hsz1] at q4
    have hbB := (((Below.refl w.heap.size w).alloc (Nat.le_refl _) (.cells (kc .u32 [h0, h1, h2, h3, h4, h5, h6, h7]).toArray 91))).alloc (by simp) (.cells (kc .u32 (List.replicate 8 0)).toArray 91)
    have a0 := q0.belowB hbx (by omega)
    have a4 := q4.belowB hbx (by omega)
    have hbw := hbB.trans (hbx.mono (by omega))
    clear hbx hbB hsz1 HB q0 q4
    have hS := spreadI_length B
    go_wp2_with fail
    generalize hS2 : spreadI B = S at *
    have HS2 := Lib.hid hS2
    clear hS2
    generalize hwq : wc = wq at *
    clear hwq
    go_loopw [17] (fun j wr => ∃ i : Nat, i ≤ 64 ∧ j = .int .i64 i ∧ ∃ a b c d e f g h : Int, MI w wr g5 g6 [h0, h1, h2, h3, h4, h5, h6, h7] S [a, b, c, d, e, f, g, h] ∧ Hid (mixN S [h0, h1, h2, h3, h4, h5, h6, h7] i = [a, b, c, d, e, f, g, h]))
      (fun j _ => 64 - (intOf j).toNat)
    case atStart => exact ⟨0, Nat.zero_le _, rfl, _, _, _, _, _, _, _, _, ⟨a0, a4, hw5, hw6, hbw, hgc.below hbw⟩, Lib.hid (by unfold mixN; rfl)⟩
    case round =>
      clear a0 a4 hw5 hw6 hbw
      obtain ⟨i, hi, rfl, va, vb, vc, vd, ve, vf, vg, vh, hM, hN⟩ := hrel
      have hsg : IntKind.u32.signed = false := rfl
      have hcl := hgc.lt
      by_cases hlt : i < 64
      · obtain ⟨c0, c1, c2, c3, c4, c5, c6, c7⟩ := hM.w6.c8
        go_wp2_with fail
        go_quiet (first | (go_at_call 64; first
          | exact Calls.quiet_of_same (turned_6 ve _)
          | exact Calls.quiet_of_same (turned_11 ve _)
          | exact Calls.quiet_of_same (turned_25 ve _)))
        have hM2 := hM.drewN nq
        generalize wr.drewN nq = w2 at *
        clear hM c0 c1 c2 c3 c4 c5 c6 c7
        obtain ⟨c0, c1, c2, c3, c4, c5, c6, c7⟩ := hM2.w6.c8
        have hk : w2.cell? ⟨1, i, none⟩ = some (.int .u32 (cubesL.getD i 0)) := hM2.g.cell (by rw [cubesL_length]; exact hlt)
        have hx : w2.cell? ⟨g5, i, none⟩ = some (.int .u32 (S.getD i 0)) := hM2.w5.cell (by rw [hS]; exact hlt)
        generalize hkk : cubesL.getD i 0 = kk at hk
        generalize hxx : S.getD i 0 = xx at hx
        have HK := Lib.hid hkk
        have HX := Lib.hid hxx
        clear hkk hxx
        go_wp2_with fail
        go_quiet (fail)
        have hM3 := hM2.drewN nq
        generalize w2.drewN nq = w3 at *
        clear hM2 c0 c1 c2 c3 c4 c5 c6 c7
        obtain ⟨c0, c1, c2, c3, c4, c5, c6, c7⟩ := hM3.w6.c8
        go_wp2_with fail
        go_quiet (first | (go_at_call 64; first
          | exact Calls.quiet_of_same (turned_2 va _)
          | exact Calls.quiet_of_same (turned_13 va _)
          | exact Calls.quiet_of_same (turned_22 va _)))
        have hM4 := hM3.drewN nq
        generalize w3.drewN nq = w4 at *
        clear hM3 c0 c1 c2 c3 c4 c5 c6 c7
        obtain ⟨c0, c1, c2, c3, c4, c5, c6, c7⟩ := hM4.w6.c8
        go_wp2_with (first
          | (with_reducible refine wpList_atS 6 ?_; refine wpList_stA 91 (.tmp 6) (.tmp 106) .u32 _ _ _ [_, va, vb, vc, _, ve, vf, vg] 8 rfl rfl rfl hM4.w6 rfl sz8 (by simp) (by simp) ?_)
          | fail)
        go_roundw
        case rel => exact ⟨i + 1, by omega, by go_num, _, va, vb, vc, _, ve, vf, vg, MI.setRow (V' := rnd va vb vc vd ve vf vg vh kk xx) hM4 hg6 hne hcl, mix_step hN HK HX rfl⟩
        case measure => simp [intOf]; omega
      · have hN64 : mixN S [h0, h1, h2, h3, h4, h5, h6, h7] 64 = [va, vb, vc, vd, ve, vf, vg, vh] := by
          have e : i = 64 := by omega
          rw [← e]; exact hN.out
        have HMI := Lib.hid (show mixI [h0, h1, h2, h3, h4, h5, h6, h7] B = addN [va, vb, vc, vd, ve, vf, vg, vh] [h0, h1, h2, h3, h4, h5, h6, h7] 8 by rw [mixI_eq, HS2.out, hN64])
        clear hN hN64
        go_wp2_with fail
        go_loopw [108] (fun j wr => ∃ i : Nat, i ≤ 8 ∧ j = .int .i64 i ∧ MI w wr g5 g6 [h0, h1, h2, h3, h4, h5, h6, h7] S (addN [va, vb, vc, vd, ve, vf, vg, vh] [h0, h1, h2, h3, h4, h5, h6, h7] i))
          (fun j _ => 8 - (intOf j).toNat)
        case atStart => exact ⟨0, Nat.zero_le _, rfl, by unfold addN; exact hM⟩
        case round =>
          clear hM
          obtain ⟨i, hi, rfl, hM⟩ := hrel
          have hlen : (addN [va, vb, vc, vd, ve, vf, vg, vh] [h0, h1, h2, h3, h4, h5, h6, h7] i).length = 8 := by simp
          by_cases hlt : i < 8
          · have c6 := hM.w6.cell (j := i) (by omega)
            have c2 := hM.a0.cell (j := i) hlt
            have f6 := hM.w6.frozen i
            have hsx := addN_succ [va, vb, vc, vd, ve, vf, vg, vh] [h0, h1, h2, h3, h4, h5, h6, h7] i
            generalize addN [va, vb, vc, vd, ve, vf, vg, vh] [h0, h1, h2, h3, h4, h5, h6, h7] i = V at *
            generalize hp : V.getD i 0 = p at c6 hsx
            generalize hq : [h0, h1, h2, h3, h4, h5, h6, h7].getD i 0 = q at c2 hsx
            have HSX := Lib.hid hsx
            clear hp hq hsx
            go_wp2_with fail
            go_region
            have hM2 := hM.setCell hg6 hne hcl i ((p + q) % 4294967296)
            rw [← HSX.out] at hM2
            have hM3 : MI w (wr.setCell ⟨g6, i, none⟩ (.int .u32 ((p + q) % 4294967296))).drew g5 g6 _ _ _ := hM2.drewN 1
            generalize (wr.setCell ⟨g6, i, none⟩ (.int .u32 ((p + q) % 4294967296))).drew = w5 at *
            go_wp2_with fail
            go_roundw
            case rel => exact ⟨i + 1, by omega, by go_num, hM3⟩
            case measure => simp [intOf]; omega
          · obtain ⟨V, HV2, hMV, hlv⟩ : ∃ V, Hid (mixI [h0, h1, h2, h3, h4, h5, h6, h7] B = V) ∧ MI w wr g5 g6 [h0, h1, h2, h3, h4, h5, h6, h7] S V ∧ V.length = 8 := by
              have e : i = 8 := by omega
              rw [e] at hM hlen
              exact ⟨_, HMI, hM, hlen⟩
            clear hM HMI
            go_wp2_with (first
              | (with_reducible refine wpList_at 120 ?_; refine wpList_ldA 91 (.tmp 6) .u32 _ _ V 8 23 rfl rfl rfl hMV.w6 Tryd.underlying91 sz8 hlv ?_)
              | (with_reducible refine wpList_atS 4 ?_; refine wpList_stA 91 (.tmp 4) (.tmp 120) .u32 _ _ _ V 8 rfl rfl rfl hMV.a4 rfl sz8 List.length_replicate hlv ?_)
              | fail)
            try simp only [Exit.inBlock, Exit.then]
            refine bodyPost_ret (results_A rfl _ (w.heap.size + 1) .u32 91 V 8 23 rfl (hMV.a4.setRow _) Tryd.underlying91 sz8 hlv) rfl ?_
            exact ⟨by rw [HV2.out], Below.setRow hMV.b (by omega) _⟩
end Go.Proofs.YtdpobhcpmpfioaaDoor

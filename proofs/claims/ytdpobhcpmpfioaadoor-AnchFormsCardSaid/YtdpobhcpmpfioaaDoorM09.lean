import Derived.Test.YtdpobhcpmpfioaaDoorM03
import Derived.Deep.QuietTactic
import Derived.BigQuiet
import Derived.BigRegion
set_option linter.all false
set_option linter.unusedVariables false
set_option linter.unusedSimpArgs false
namespace Go.Proofs.YtdpobhcpmpfioaaDoor
open Go.RowKit
def word4' (x0 x1 x2 x3 : Int) : Int :=
  bits .or .u32 (bits .or .u32 (bits .or .u32 (x0 % 4294967296 * 16777216 % 4294967296) (x1 % 4294967296 * 65536 % 4294967296)) (x2 % 4294967296 * 256 % 4294967296)) (x3 % 4294967296)
def word4 (B : List Int) (i : Nat) : Int := word4' (B.getD (4 * i) 0) (B.getD (4 * i + 1) 0) (B.getD (4 * i + 2) 0) (B.getD (4 * i + 3) 0)
def sp1 (B : List Int) : Nat → List Int
  | 0 => List.replicate 64 0
  | i + 1 => (sp1 B i).set i (word4 B i)
@[simp] theorem sp1_length (B : List Int) (i : Nat) : (sp1 B i).length = 64 := by
  induction i with
  | zero => rfl
  | succ i ih => simp [sp1, ih]
def s0I (a : Int) : Int := bits .xor .u32 (bits .xor .u32 (rotI a 7) (rotI a 18)) (a / 8)
def s1I (a : Int) : Int := bits .xor .u32 (bits .xor .u32 (rotI a 17) (rotI a 19)) (a / 1024)
def nextw' (a16 a15 a7 a2 : Int) : Int := (a16 + s0I a15 + a7 + s1I a2) % 4294967296
def nextw (A : List Int) (i : Nat) : Int := nextw' (A.getD (i - 16) 0) (A.getD (i - 15) 0) (A.getD (i - 7) 0) (A.getD (i - 2) 0)
def sp2 (A : List Int) : Nat → List Int
  | 0 => A
  | n + 1 => (sp2 A n).set (16 + n) (nextw (sp2 A n) (16 + n))
@[simp] theorem sp2_length (A : List Int) (i : Nat) : (sp2 A i).length = A.length := by
  induction i with
  | zero => rfl
  | succ i ih => simp [sp2, ih]
def spreadI (B : List Int) : List Int := sp2 (sp1 B 16) 48
theorem spreadI_eq (B : List Int) : spreadI B = sp2 (sp1 B 16) 48 := rfl
@[simp] theorem spreadI_length (B : List Int) : (spreadI B).length = 64 := by simp [spreadI]
attribute [irreducible] spreadI

set_option maxHeartbeats 1000000 in
set_option maxRecDepth 100000 in
theorem spread_ok (b off c : Nat) (B : List Int) (w : World) (hB : B.length = 64) (hb : ∀ j < 64, w.cell? ⟨b, off + j, none⟩ = some (.int .u8 (B.getD j 0))) (hc : 64 ≤ c) (hlt0 : b < w.heap.size) :
    Calls Tryd.prog 63 #[.slice (some ⟨b, off, none⟩) 64 c] w fun e w' => e = .returned (.agg (wc (spreadI B)).toArray) ∧ Below w.heap.size w w' := by
  have HB := Lib.hid hb
  clear hb
  go_enter Tryd.func63, Tryd.ntmps63
  go_wp2_with fail
  have a1 := WA.new .u32 (w.alloc (.cells (wc (List.replicate 64 0)).toArray 104)) 104 (List.replicate 64 0)
  have a0 := (WA.new .u32 w 104 (List.replicate 64 0)).alloc (.cells (wc (List.replicate 64 0)).toArray 104)
  have hb1 : Below w.heap.size w ((w.alloc (.cells (wc (List.replicate 64 0)).toArray 104)).alloc (.cells (wc (List.replicate 64 0)).toArray 104)) := ((Below.refl _ _).alloc (Nat.le_refl _) _).alloc (by simp) _
  have hs : (w.alloc (.cells (wc (List.replicate 64 0)).toArray 104)).heap.size = w.heap.size + 1 := by simp
  rw [hs] at a1
  clear hs
  go_loopw [10] (fun j wr => ∃ i : Nat, i ≤ 16 ∧ j = .int .i64 i ∧ WA .u32 wr w.heap.size 104 (List.replicate 64 0) ∧ WA .u32 wr (w.heap.size + 1) 104 (sp1 B i) ∧ Below w.heap.size w wr)
    (fun j _ => 16 - (intOf j).toNat)
  case atStart => exact ⟨0, Nat.zero_le _, rfl, a0, a1, hb1⟩
  case round =>
    clear a0 a1 hb1
    obtain ⟨i, hi, rfl, a0, a1, hbel⟩ := hrel
    by_cases hlt : i < 16
    · have c0 : wr.cell? ⟨b, off + 4 * i, none⟩ = some (.int .u8 (B.getD (4 * i) 0)) := cellB hbel (HB.out _ (by omega)) hlt0
      have c1 : wr.cell? ⟨b, off + (4 * i + 1), none⟩ = some (.int .u8 (B.getD (4 * i + 1) 0)) := cellB hbel (HB.out _ (by omega)) hlt0
      have c2 : wr.cell? ⟨b, off + (4 * i + 2), none⟩ = some (.int .u8 (B.getD (4 * i + 2) 0)) := cellB hbel (HB.out _ (by omega)) hlt0
      have c3 : wr.cell? ⟨b, off + (4 * i + 3), none⟩ = some (.int .u8 (B.getD (4 * i + 3) 0)) := cellB hbel (HB.out _ (by omega)) hlt0
      have e0 : IntKind.i64.wrap (4 * (i : Int)) = ((4 * i : Nat) : Int) := wrapN _ _ (by omega) (by omega)
      have d1 := a1.cell (j := i) (by simp; omega)
      have f1 := a1.frozen i
      have E := Lib.hid (show word4' (B.getD (4 * i) 0) (B.getD (4 * i + 1) 0) (B.getD (4 * i + 2) 0) (B.getD (4 * i + 3) 0) = word4 B i from rfl)
      generalize B.getD (4 * i) 0 = x0 at c0 E
      generalize B.getD (4 * i + 1) 0 = x1 at c1 E
      generalize B.getD (4 * i + 2) 0 = x2 at c2 E
      generalize B.getD (4 * i + 3) 0 = x3 at c3 E
      go_wp2_with fail
      go_region
      have hb2 := (hbel.setCell (p := ⟨w.heap.size + 1, i, none⟩) (by simp) (.int .u32 (word4' x0 x1 x2 x3))).drew
      have a1' : WA .u32 (wr.setCell ⟨w.heap.size + 1, i, none⟩ (.int .u32 (word4' x0 x1 x2 x3))).drew (w.heap.size + 1) 104 (sp1 B (i + 1)) := by
        rw [E.out]; exact a1.set i _
      have a0' : WA .u32 (wr.setCell ⟨w.heap.size + 1, i, none⟩ (.int .u32 (word4' x0 x1 x2 x3))).drew w.heap.size 104 (List.replicate 64 0) := a0.other _ _ (by simp)
      change Exit.inBlock _ _ _ _ (wr.setCell ⟨w.heap.size + 1, i, none⟩ (.int .u32 (word4' x0 x1 x2 x3))).drew
      generalize (wr.setCell ⟨w.heap.size + 1, i, none⟩ (.int .u32 (word4' x0 x1 x2 x3))).drew = w2 at *
      go_wp2_with fail
      go_roundw
      case rel => exact ⟨i + 1, by omega, by go_num, a0', a1', hb2⟩
      case measure => simp [intOf]; omega
    · have a1 : WA .u32 wr (w.heap.size + 1) 104 (sp1 B 16) := by
        obtain rfl : i = 16 := by omega
        exact a1
      go_wp2_with fail
      go_loopw [5] (fun j wr => ∃ i : Nat, i ≤ 48 ∧ j = .int .i64 ((16 + i : Nat) : Int) ∧ WA .u32 wr w.heap.size 104 (List.replicate 64 0) ∧ WA .u32 wr (w.heap.size + 1) 104 (sp2 (sp1 B 16) i) ∧ Below w.heap.size w wr)
        (fun j _ => 64 - (intOf j).toNat)
      case atStart => exact ⟨0, Nat.zero_le _, rfl, a0, a1, hbel⟩
      case round =>
        clear a0 a1 hbel
        obtain ⟨i, hi, rfl, a0, a1, hbel⟩ := hrel
        by_cases hlt : i < 48
        · have d1 := a1.cell (j := 16 + i) (by simp; omega)
          have d2 := a1.cell (j := 16 + i - 2) (by simp; omega)
          have d9 := a1.cell (j := 16 + i - 7) (by simp; omega)
          have d15 := a1.cell (j := 16 + i - 15) (by simp; omega)
          have d16 := a1.cell (j := 16 + i - 16) (by simp; omega)
          have f1 := a1.frozen (16 + i)
          have E := Lib.hid (show nextw' ((sp2 (sp1 B 16) i).getD (16 + i - 16) 0) ((sp2 (sp1 B 16) i).getD (16 + i - 15) 0) ((sp2 (sp1 B 16) i).getD (16 + i - 7) 0) ((sp2 (sp1 B 16) i).getD (16 + i - 2) 0) = nextw (sp2 (sp1 B 16) i) (16 + i) from rfl)
          generalize (sp2 (sp1 B 16) i).getD (16 + i - 16) 0 = x16 at d16 E
          generalize (sp2 (sp1 B 16) i).getD (16 + i - 15) 0 = x15 at d15 E
          generalize (sp2 (sp1 B 16) i).getD (16 + i - 7) 0 = x7 at d9 E
          generalize (sp2 (sp1 B 16) i).getD (16 + i - 2) 0 = x2 at d2 E
          generalize (sp2 (sp1 B 16) i).getD (16 + i) 0 = x0 at d1
          go_wp2_with fail
          go_region
          generalize hw2 : wr.drew = w2
          have hb2 : Below w.heap.size w w2 := hw2 ▸ hbel.drew
          have a0 : WA .u32 w2 w.heap.size 104 (List.replicate 64 0) := hw2 ▸ (show WA .u32 wr.drew _ _ _ from a0)
          have a1 : WA .u32 w2 (w.heap.size + 1) 104 (sp2 (sp1 B 16) i) := hw2 ▸ (show WA .u32 wr.drew _ _ _ from a1)
          have d1 : w2.cell? ⟨w.heap.size + 1, 16 + i, none⟩ = some (.int .u32 x0) := hw2 ▸ (show wr.drew.cell? _ = _ from d1)
          have d9 : w2.cell? ⟨w.heap.size + 1, 16 + i - 7, none⟩ = some (.int .u32 x7) := hw2 ▸ (show wr.drew.cell? _ = _ from d9)
          have d16 : w2.cell? ⟨w.heap.size + 1, 16 + i - 16, none⟩ = some (.int .u32 x16) := hw2 ▸ (show wr.drew.cell? _ = _ from d16)
          have d16b : w2.cell? ⟨w.heap.size + 1, i, none⟩ = some (.int .u32 x16) := by rw [show i = 16 + i - 16 by omega]; exact d16
          have e16 : IntKind.i64.wrap (16 + (i : Int) - 16) = (i : Int) := wrapN _ _ (by omega) (by omega)
          have f1 : w2.frozen? ⟨w.heap.size + 1, 16 + i, none⟩ = false := hw2 ▸ (show wr.drew.frozen? _ = _ from f1)
          clear hw2 d2 d15
          go_wp2_with fail
          refine (turned_7 x15 w2).mono ?_
          rintro e w3 ⟨rfl, rfl⟩
          go_wp2_with fail
          refine (turned_18 x15 _).mono ?_
          rintro e w4 ⟨rfl, rfl⟩
          go_wp2_with fail
          refine (turned_17 x2 _).mono ?_
          rintro e w5 ⟨rfl, rfl⟩
          go_wp2_with fail
          refine (turned_19 x2 _).mono ?_
          rintro e w6 ⟨rfl, rfl⟩
          go_wp2_with fail
          go_region
          have a1' : WA .u32 (w6.setCell ⟨w.heap.size + 1, 16 + i, none⟩ (.int .u32 (nextw' x16 x15 x7 x2))).drew (w.heap.size + 1) 104 (sp2 (sp1 B 16) (i + 1)) := by
            rw [E.out]; exact a1.set (16 + i) _
          have a0' : WA .u32 (w6.setCell ⟨w.heap.size + 1, 16 + i, none⟩ (.int .u32 (nextw' x16 x15 x7 x2))).drew w.heap.size 104 (List.replicate 64 0) := a0.other _ _ (by simp)
          have hb2' := (hb2.setCell (p := ⟨w.heap.size + 1, 16 + i, none⟩) (by simp) (.int .u32 (nextw' x16 x15 x7 x2))).drew
          change Exit.inBlock _ _ _ _ (w6.setCell ⟨w.heap.size + 1, 16 + i, none⟩ (.int .u32 (nextw' x16 x15 x7 x2))).drew
          generalize (w6.setCell ⟨w.heap.size + 1, 16 + i, none⟩ (.int .u32 (nextw' x16 x15 x7 x2))).drew = w7 at *
          go_wp2_with fail
          go_roundw
          case rel => exact ⟨i + 1, by omega, by go_num, a0', a1', hb2'⟩
          case measure => simp [intOf]; omega
        · obtain ⟨S, HS, a1, hlen⟩ : ∃ S, Hid (spreadI B = S) ∧ WA .u32 wr (w.heap.size + 1) 104 S ∧ S.length = 64 := by
            obtain rfl : i = 48 := by omega
            rw [← spreadI_eq] at a1
            exact ⟨spreadI B, Lib.hid rfl, a1, spreadI_length B⟩
          go_wp2_with (first
            | (with_reducible refine wpList_at 92 ?_; refine wpList_ldA 104 (.tmp 3) .u32 _ _ S 64 23 rfl rfl rfl a1 Tryd.underlying104 sz64 hlen ?_)
            | (with_reducible refine wpList_atS 2 ?_; refine wpList_stA 104 (.tmp 2) (.tmp 92) .u32 _ _ _ S 64 rfl rfl rfl a0 rfl sz64 List.length_replicate hlen ?_)
            | fail)

          try simp only [Exit.inBlock, Exit.then]
          refine bodyPost_ret (results_A rfl _ w.heap.size .u32 104 S 64 23 rfl (a0.setRow _) Tryd.underlying104 sz64 hlen) rfl ?_
          exact ⟨by rw [HS.out], Below.setRow hbel (Nat.le_refl _) _⟩
end Go.Proofs.YtdpobhcpmpfioaaDoor

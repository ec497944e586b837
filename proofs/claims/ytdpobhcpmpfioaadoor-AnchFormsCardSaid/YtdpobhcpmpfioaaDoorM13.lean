import Derived.Test.YtdpobhcpmpfioaaDoorM03
import Derived.Shelf.Bytes.Small
set_option linter.all false
set_option linter.unusedVariables false
set_option linter.unusedSimpArgs false
namespace Go.Proofs.YtdpobhcpmpfioaaDoor
open Go.Shelf Go.RowKit
def lay115_ren : Go.Shelf.Ren := ⟨fun | 115 => 67 | n => n, fun | 37 => 25 | 4 => 4 | 9 => 9 | 5 => 5 | n => n, fun | n => n⟩
theorem lay115 : Go.Proofs.Lays.n115 Tryd.prog lay115_ren := {
  mixed := by kernel_rfl
  f115 := Tryd.func67.trans (congrArg some (by kernel_rfl))
  t4 := Tryd.underlying4
  a4 := Tryd.isAgg4
  z4 := Tryd.sizeOf4
  v4 := Tryd.zeroValue4
  t9 := Tryd.underlying9
  a9 := Tryd.isAgg9
  z9 := Tryd.sizeOf9
  v9 := Tryd.zeroValue9
  t37 := Tryd.underlying25
  a37 := Tryd.isAgg25
  z37 := Tryd.sizeOf25
  v37 := Tryd.zeroValue25 }
def lay116_ren : Go.Shelf.Ren := ⟨fun | 116 => 59 | 115 => 67 | n => n, fun | 37 => 25 | 4 => 4 | 3 => 3 | 9 => 9 | 5 => 5 | n => n, fun | n => n⟩
theorem lay116 : Go.Proofs.Lays.nb116 Tryd.prog lay116_ren := {
  mixed := by kernel_rfl
  f115 := Tryd.func67.trans (congrArg some (by kernel_rfl))
  f116 := Tryd.func59.trans (congrArg some (by kernel_rfl))
  t3 := Tryd.underlying3
  a3 := Tryd.isAgg3
  z3 := Tryd.sizeOf3
  v3 := Tryd.zeroValue3
  t4 := Tryd.underlying4
  a4 := Tryd.isAgg4
  z4 := Tryd.sizeOf4
  v4 := Tryd.zeroValue4
  t9 := Tryd.underlying9
  a9 := Tryd.isAgg9
  z9 := Tryd.sizeOf9
  v9 := Tryd.zeroValue9
  t37 := Tryd.underlying25
  a37 := Tryd.isAgg25
  z37 := Tryd.sizeOf25
  v37 := Tryd.zeroValue25
  t5 := Tryd.underlying5
  a5 := Tryd.isAgg5
  z5 := Tryd.sizeOf5
  v5 := Tryd.zeroValue5 }
theorem HasPrefix0 (b1 o1 n c b2 o2 m d : Nat) (xs ys : List Int) (w : World) (hx : xs.length = n) (hy : ys.length = m) (hnc : n ≤ c)
    (hc1 : ∀ i, i < n → w.cell? ⟨b1, o1 + i, none⟩ = some (.int .u8 (xs.getD i 0))) (hc2 : ∀ i, i < m → w.cell? ⟨b2, o2 + i, none⟩ = some (.int .u8 (ys.getD i 0))) :
    Calls Tryd.prog 59 #[.slice (some ⟨b1, o1, none⟩) n c, .slice (some ⟨b2, o2, none⟩) m d] w fun e w' => e = .returned (.bool (Lib.hasPrefix (Lib.bytesOf xs) (Lib.bytesOf ys))) ∧ w' = w := Any.bytes_HasPrefix lay116 b1 o1 n c b2 o2 m d xs ys w hx hy hnc hc1 hc2
def pfx (ys xs : List Int) : Bool := Lib.hasPrefix (Lib.bytesOf xs) (Lib.bytesOf ys)
theorem HasPrefix_ok (v : Value) (l : List Int) (b2 o2 d : Nat) (ys : List Int) (w : World) (h : RBy w v l) (hm : 0 < ys.length) (hl : l.length ≤ 1000000) (hl2 : ys.length ≤ 1000000)
    (hc2 : ∀ i, i < ys.length → w.cell? ⟨b2, o2 + i, none⟩ = some (.int .u8 (ys.getD i 0))) :
    Calls Tryd.prog 59 #[v, .slice (some ⟨b2, o2, none⟩) ys.length d] w fun e w' => e = .returned (.bool (pfx ys l)) ∧ w' = w := by
  by_cases h0 : 0 < l.length
  · obtain ⟨b, off, c, rfl, h1, h2, hb, hc⟩ := Rd.form h h0
    refine HasPrefix0 b off l.length c b2 o2 ys.length d l ys w rfl rfl h1 (fun i hi => hc i _ ?_) hc2
    simp [byc, List.getElem?_eq_getElem hi]
  · obtain rfl : l = [] := List.eq_nil_of_length_eq_zero (by omega)
    obtain ⟨a, c, rfl, h1, h2⟩ := Rd.form' h
    have hp : pfx ys [] = false := by
      cases ys with
      | nil => simp at hm
      | cons y r => rfl
    have HP := Lib.hid hp
    clear hp hc2 h
    generalize ys.length = m at *
    have hd : decide ((0 : Int) ≥ (m : Int)) = false := decide_eq_false (by omega)
    simp only [List.length_nil]
    go_enter Tryd.func59, Tryd.ntmps59
    go_wp2_with fail
    go_ret
    exact ⟨by rw [HP.out]; rfl, rfl⟩
end Go.Proofs.YtdpobhcpmpfioaaDoor

namespace Go.Proofs.YtdpobhcpmpfioaaDoor
open Go.RowKit

set_option maxRecDepth 100000 in
theorem Kind1_ok (n g : Nat) (v : Value) (l : List Int) (b2 o2 d : Nat) (ys : List Int) (w : World) (hg : w.cell? ⟨g, 0, none⟩ = some v) (h : RBy w v l) (hm : 0 < ys.length) (hl : l.length ≤ 1000000) (hl2 : ys.length ≤ 1000000) (hn : n ≤ 1000)
    (hc2 : ∀ i, i < ys.length → w.cell? ⟨b2, o2 + i, none⟩ = some (.int .u8 (ys.getD i 0))) :
    Calls Tryd.prog 58 #[.int .i64 n, .slice (some ⟨b2, o2, none⟩) ys.length d, .pointer (some ⟨g, 0, none⟩)] w fun e w' => e = .returned (.bool (l.length == n && pfx ys l)) ∧ w' = w := by
  obtain ⟨a, c, rfl, h1, h2⟩ := Rd.form' h
  have hc := HasPrefix_ok _ l b2 o2 d ys w h hm hl hl2 hc2
  have HC := Lib.hid hc
  clear hc hc2 h
  by_cases hln : l.length = n
  · have hd : ((l.length : Int) == (n : Int)) = true := by simp [hln]
    have HR := Lib.hid (show (l.length == n && pfx ys l) = pfx ys l by simp [hln])
    clear hln
    generalize ys.length = m at *
    go_enter Tryd.func58, Tryd.ntmps58
    go_wp2_with fail
    refine HC.out.mono ?_
    rintro e w1 ⟨rfl, rfl⟩
    go_wp2_with fail
    go_ret
    exact ⟨by rw [HR.out]; rfl, rfl⟩
  · have hd : ((l.length : Int) == (n : Int)) = false := by simp; omega
    have HR := Lib.hid (show (l.length == n && pfx ys l) = false by simp [hln])
    clear hln
    generalize ys.length = m at *
    go_enter Tryd.func58, Tryd.ntmps58
    go_wp2_with fail
    go_ret
    exact ⟨by rw [HR.out]; rfl, rfl⟩
end Go.Proofs.YtdpobhcpmpfioaaDoor

namespace Go.Proofs.YtdpobhcpmpfioaaDoor
open Go.RowKit
def kindI (s : List Int) : Int :=
  if (s.length == 4 && pfx [81, 2, 78, 115] s) = true then 1 else if (s.length == 22 && pfx [0, 20] s) = true then 2 else if (s.length == 34 && pfx [0, 32] s) = true then 3
  else if (s.length == 34 && pfx [81, 32] s) = true then 4 else if (decide (s.length ≤ 83) && pfx [106] s) = true then 5 else 0
theorem new_bytes (w : World) (ys : List Int) (i : Nat) (hi : i < ys.length) : (w.alloc (.cells (byc ys).toArray 5)).cell? ⟨w.heap.size, 0 + i, none⟩ = some (.int .u8 (ys.getD i 0)) := by
  rw [Nat.zero_add, cell_of_row _ _ _ _ _ _ (heap_alloc_new w _)]
  simp [byc, List.getElem?_eq_getElem hi]

set_option maxHeartbeats 1000000 in
set_option maxRecDepth 100000 in
theorem Kind_ok (v : Value) (l : List Int) (w : World) (h : RBy w v l) (hl : l.length ≤ 1000000) :
    Calls Tryd.prog 43 #[v] w fun e w' => e = .returned (.int .i64 (kindI l)) ∧ Below w.heap.size w w' := by
  obtain ⟨a, c, rfl, h1, h2⟩ := Rd.form' h
  go_enter Tryd.func43, Tryd.ntmps43
  obtain ⟨W, hW, c0, hbW, hsW⟩ : ∃ W, w.alloc (.cells #[.slice a l.length c] 25) = W ∧ W.cell? ⟨w.heap.size, 0, none⟩ = some (.slice a l.length c) ∧ Below w.heap.size w W ∧ w.heap.size < W.heap.size :=
    ⟨_, rfl, cell_new w [.slice a l.length c] _ 0 _ rfl, (Below.refl _ _).alloc (Nat.le_refl _) _, by simp⟩
  have hr := RBy.below h hbW
  clear h
  go_wp2_with fail
  clear hW
  have hbx0 : Below W.heap.size W W := Below.refl _ _
  have hk : Hid (kindI l = kindI l) := Lib.hid rfl
  have hb0 : Below W.heap.size W (W.alloc (.cells (byc [81, 2, 78, 115]).toArray 5)) := hbx0.alloc hbx0.size _
  refine (Kind1_ok 4 w.heap.size _ l _ 0 _ [81, 2, 78, 115] (W.alloc (.cells (byc [81, 2, 78, 115]).toArray 5)) (cellB hb0 c0 hsW) (RBy.below hr hb0) (by decide) hl (by decide) (by decide) (new_bytes W [81, 2, 78, 115])).mono ?_
  rintro e w0 ⟨rfl, rfl⟩
  have hbx1 := hb0
  generalize W.alloc (.cells (byc [81, 2, 78, 115]).toArray 5) = W1 at *
  clear hb0
  cases T0 : (l.length == 4 && pfx [81, 2, 78, 115] l) with
  | true =>
    have HR := Lib.hid (show kindI l = 1 by unfold kindI; rw [if_pos T0])
    clear hk
    go_wp2_with fail
    go_ret
    exact ⟨by rw [HR.out]; rfl, hbW.trans (hbx1.mono (by omega))⟩
  | false =>
  have S0 := Lib.hid T0
  clear T0
  go_wp2_with fail
  have hb1 : Below W.heap.size W (W1.alloc (.cells (byc [0, 20]).toArray 5)) := hbx1.alloc hbx1.size _
  refine (Kind1_ok 22 w.heap.size _ l _ 0 _ [0, 20] (W1.alloc (.cells (byc [0, 20]).toArray 5)) (cellB hb1 c0 hsW) (RBy.below hr hb1) (by decide) hl (by decide) (by decide) (new_bytes W1 [0, 20])).mono ?_
  rintro e w1 ⟨rfl, rfl⟩
  have hbx2 := hb1
  generalize W1.alloc (.cells (byc [0, 20]).toArray 5) = W2 at *
  clear hb1
  cases T1 : (l.length == 22 && pfx [0, 20] l) with
  | true =>
    have HR := Lib.hid (show kindI l = 2 by unfold kindI; rw [if_neg (by rw [S0.out]; decide), if_pos T1])
    clear hk
    go_wp2_with fail
    go_ret
    exact ⟨by rw [HR.out]; rfl, hbW.trans (hbx2.mono (by omega))⟩
  | false =>
  have S1 := Lib.hid T1
  clear T1
  go_wp2_with fail
  have hb2 : Below W.heap.size W (W2.alloc (.cells (byc [0, 32]).toArray 5)) := hbx2.alloc hbx2.size _
  refine (Kind1_ok 34 w.heap.size _ l _ 0 _ [0, 32] (W2.alloc (.cells (byc [0, 32]).toArray 5)) (cellB hb2 c0 hsW) (RBy.below hr hb2) (by decide) hl (by decide) (by decide) (new_bytes W2 [0, 32])).mono ?_
  rintro e w2 ⟨rfl, rfl⟩
  have hbx3 := hb2
  generalize W2.alloc (.cells (byc [0, 32]).toArray 5) = W3 at *
  clear hb2
  cases T2 : (l.length == 34 && pfx [0, 32] l) with
  | true =>
    have HR := Lib.hid (show kindI l = 3 by unfold kindI; rw [if_neg (by rw [S0.out]; decide), if_neg (by rw [S1.out]; decide), if_pos T2])
    clear hk
    go_wp2_with fail
    go_ret
    exact ⟨by rw [HR.out]; rfl, hbW.trans (hbx3.mono (by omega))⟩
  | false =>
  have S2 := Lib.hid T2
  clear T2
  go_wp2_with fail
  have hb3 : Below W.heap.size W (W3.alloc (.cells (byc [81, 32]).toArray 5)) := hbx3.alloc hbx3.size _
  refine (Kind1_ok 34 w.heap.size _ l _ 0 _ [81, 32] (W3.alloc (.cells (byc [81, 32]).toArray 5)) (cellB hb3 c0 hsW) (RBy.below hr hb3) (by decide) hl (by decide) (by decide) (new_bytes W3 [81, 32])).mono ?_
  rintro e w3 ⟨rfl, rfl⟩
  have hbx4 := hb3
  generalize W3.alloc (.cells (byc [81, 32]).toArray 5) = W4 at *
  clear hb3
  cases T3 : (l.length == 34 && pfx [81, 32] l) with
  | true =>
    have HR := Lib.hid (show kindI l = 4 by unfold kindI; rw [if_neg (by rw [S0.out]; decide), if_neg (by rw [S1.out]; decide), if_neg (by rw [S2.out]; decide), if_pos T3])
    clear hk
    go_wp2_with fail
    go_ret
    exact ⟨by rw [HR.out]; rfl, hbW.trans (hbx4.mono (by omega))⟩
  | false =>
  have S3 := Lib.hid T3
  clear T3 hk
  have c4 := cellB hbx4 c0 hsW
  have hb5 : Below W.heap.size W (W4.alloc (.cells (byc [106]).toArray 5)) := hbx4.alloc hbx4.size _
  by_cases h83 : l.length ≤ 83
  · have hd : decide ((l.length : Int) ≤ 83) = true := decide_eq_true (by omega)
    cases T4 : pfx [106] l with
    | true =>
      have HR := Lib.hid (show kindI l = 5 by unfold kindI; rw [if_neg (by rw [S0.out]; decide), if_neg (by rw [S1.out]; decide), if_neg (by rw [S2.out]; decide), if_neg (by rw [S3.out]; decide), if_pos (by rw [T4]; simp [h83])])
      have HC := Lib.hid ((HasPrefix_ok _ l _ 0 1 [106] (W4.alloc (.cells (byc [106]).toArray 5)) (RBy.below hr hb5) (by decide) hl (by decide) (new_bytes W4 [106])))
      rw [T4] at HC
      clear T4 h83
      go_wp2_with fail
      refine HC.out.mono ?_
      rintro e w5 ⟨rfl, rfl⟩
      generalize W4.alloc (.cells (byc [106]).toArray 5) = W5 at *
      go_wp2_with fail
      go_ret
      exact ⟨by rw [HR.out]; rfl, hbW.trans (hb5.mono (by omega))⟩
    | false =>
      have HR := Lib.hid (show kindI l = 0 by unfold kindI; rw [if_neg (by rw [S0.out]; decide), if_neg (by rw [S1.out]; decide), if_neg (by rw [S2.out]; decide), if_neg (by rw [S3.out]; decide), if_neg (by rw [T4]; simp [h83])])
      have HC := Lib.hid ((HasPrefix_ok _ l _ 0 1 [106] (W4.alloc (.cells (byc [106]).toArray 5)) (RBy.below hr hb5) (by decide) hl (by decide) (new_bytes W4 [106])))
      rw [T4] at HC
      clear T4 h83
      go_wp2_with fail
      refine HC.out.mono ?_
      rintro e w5 ⟨rfl, rfl⟩
      generalize W4.alloc (.cells (byc [106]).toArray 5) = W5 at *
      go_wp2_with fail
      go_ret
      exact ⟨by rw [HR.out]; rfl, hbW.trans (hb5.mono (by omega))⟩
  · have hd : decide ((l.length : Int) ≤ 83) = false := decide_eq_false (by omega)
    have HR := Lib.hid (show kindI l = 0 by unfold kindI; rw [if_neg (by rw [S0.out]; decide), if_neg (by rw [S1.out]; decide), if_neg (by rw [S2.out]; decide), if_neg (by rw [S3.out]; decide), if_neg (by simp [h83])])
    clear h83
    go_wp2_with fail
    go_ret
    exact ⟨by rw [HR.out]; rfl, hbW.trans (hbx4.mono (by omega))⟩
end Go.Proofs.YtdpobhcpmpfioaaDoor

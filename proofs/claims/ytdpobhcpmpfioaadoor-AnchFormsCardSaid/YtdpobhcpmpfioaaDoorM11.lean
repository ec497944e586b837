import Derived.Test.YtdpobhcpmpfioaaDoorM03
import Derived.Test.YtdpobhcpmpfioaaDoorM10
import Derived.StillTailTactics
set_option linter.all false
set_option linter.unusedVariables false
set_option linter.unusedSimpArgs false
namespace Go.Proofs.YtdpobhcpmpfioaaDoor
open Go.RowKit
/-- how many zeros are put behind -/
def padZ (n : Nat) : Nat := (119 - n % 64) % 64
def be8 (m : Nat) : List Int := (List.range 8).map fun (j : Nat) => (m : Int) * 8 / 2 ^ (8 * (7 - j)) % 256
def padded (l : List Int) : List Int := l ++ [128] ++ List.replicate (padZ l.length) 0 ++ be8 l.length
def lenV : Value → Nat
  | .slice _ n _ => n
  | _ => 0

theorem be8_length (m : Nat) : (be8 m).length = 8 := by simp [be8]
theorem be8_take (m i : Nat) (h : i < 8) : (be8 m).take (i + 1) = (be8 m).take i ++ [(m : Int) * 8 / 2 ^ (8 * (7 - i)) % 256] := by
  rw [List.take_succ_eq_append_getElem (by rw [be8_length]; exact h)]
  simp [be8]
theorem be8_all (m : Nat) : (be8 m).take 8 = be8 m := List.take_of_length_le (by rw [be8_length]; omega)
theorem be8_byte (m : Nat) : ∀ x ∈ be8 m, 0 ≤ x ∧ x < 256 := by
  intro x hx
  obtain ⟨j, _, rfl⟩ := List.mem_map.1 hx
  exact ⟨Int.emod_nonneg _ (by decide), Int.emod_lt_of_pos _ (by decide)⟩
attribute [irreducible] be8
theorem padded_byte (l : List Int) (h : ∀ x ∈ l, 0 ≤ x ∧ x < 256) : ∀ x ∈ padded l, 0 ≤ x ∧ x < 256 := by
  intro x hx
  simp only [padded, List.mem_append, List.mem_singleton, List.mem_replicate] at hx
  rcases hx with ((hx | rfl) | ⟨_, rfl⟩) | hx
  · exact h x hx
  · exact ⟨by decide, by decide⟩
  · exact ⟨by decide, by decide⟩
  · exact be8_byte _ x hx
def hs (X : List Int) : Nat → List Int
  | 0 => squaresL
  | j + 1 => mixI (hs X j) ((X.drop (64 * j)).take 64)
theorem hs_succ (X : List Int) (j : Nat) : hs X (j + 1) = mixI (hs X j) ((X.drop (64 * j)).take 64) := rfl
theorem hs_zero (X : List Int) : hs X 0 = squaresL := rfl
attribute [irreducible] hs
theorem RBy.drop64 {w : World} {b off N c : Nat} {Y : List Int} (h : RBy w (.slice (some ⟨b, off, none⟩) Y.length c) Y) (hN : Y.length = N) (h64 : 64 ≤ N) (hc : N ≤ c) (hc2 : c ≤ 9223372036854775807) :
    RBy w (.slice (if c = 64 then some ⟨b, off, none⟩ else some ⟨b, off + 64, none⟩) (N - 64) (c - 64)) (Y.drop 64) := by
  obtain ⟨hl, a, c', he, h1, h2, h3⟩ := h
  obtain ⟨rfl, rfl⟩ : some ⟨b, off, none⟩ = a ∧ c = c' := by simpa using he
  have hlen : (Y.drop 64).length = N - 64 := by rw [List.length_drop, hN]
  unfold RBy
  rw [hlen]
  refine ⟨by simp [byc, hN], _, _, rfl, by omega, by omega, ?_⟩
  by_cases hc6 : c = 64
  · exact .inl (by omega)
  · right
    rw [if_neg hc6]
    rcases h3 with h3 | ⟨b', off', cs, T', fr, hb, h4, h5, h6⟩
    · omega
    · obtain ⟨rfl, rfl⟩ : b = b' ∧ off = off' := by simpa using hb
      refine ⟨b, off + 64, cs, T', fr, rfl, h4, h5, fun j u hu => ?_⟩
      rw [Nat.add_assoc]
      apply h6
      simpa [byc] using hu
def outN (V : List Int) : Nat → List Int
  | 0 => List.replicate 32 0
  | i + 1 => (outN V i).set i (V.getD (i / 4) 0 / 2 ^ (24 - 8 * (i % 4)) % 256)
@[simp] theorem outN_length (V : List Int) (i : Nat) : (outN V i).length = 32 := by
  induction i with
  | zero => rfl
  | succ i ih => simp [outN, ih]
theorem outN_succ (V : List Int) (i : Nat) : outN V (i + 1) = (outN V i).set i (V.getD (i / 4) 0 / 2 ^ (24 - 8 * (i % 4)) % 256) := rfl
/-- SHA-256 of bytes -/
def sumL (l : List Int) : List Int := outN (hs (padded l) ((padded l).length / 64)) 32
theorem sumL_eq (l : List Int) : sumL l = outN (hs (padded l) ((padded l).length / 64)) 32 := rfl
@[simp] theorem sumL_length (l : List Int) : (sumL l).length = 32 := by simp [sumL]
attribute [irreducible] sumL
def sumI (l : List Int) : ID := ⟨sumL l, sumL_length l⟩
theorem len8 {l : List Int} (h : l.length = 8) : ∃ a b c d e f g h', l = [a, b, c, d, e, f, g, h'] := by
  match l, h with
  | [a, b, c, d, e, f, g, h'], _ => exact ⟨a, b, c, d, e, f, g, h', rfl⟩
theorem mixN_len8 (S H : List Int) (h : H.length = 8) (n : Nat) : (mixN S H n).length = 8 := by
  induction n with
  | zero => unfold mixN; exact h
  | succ n ih =>
    obtain ⟨a, b, c, d, e, f, g, h', he⟩ := len8 ih
    rw [mixN_succ, he]; rfl
theorem mixI_len8 (H B : List Int) (h : H.length = 8) : (mixI H B).length = 8 := by rw [mixI_eq, addN_length, mixN_len8 _ _ h]
theorem zs8 : (Tryd.prog.info? 91).map (fun i => (i.zero.map (·.cells.size), i.size)) = some (some 8, 8) := by kernel_rfl
theorem squaresL_length : squaresL.length = 8 := by decide
theorem kc_one' (k : IntKind) (A : List Int) : ∀ v ∈ kc k A, v.oneCell' = true := by
  intro v hv
  obtain ⟨n, _, rfl⟩ := List.mem_map.1 hv
  rfl
theorem OB.mk1 {w : World} {base n : Nat} {v : Value} {L : List Int} {x : Int} (h : w.ownsRow base 5 1 v (n + 1) (byc L ++ [.int .u8 x])) (hn : L.length = n) : OB w base v (L ++ [x]) := by
  subst hn
  exact OB.mk_app h (m := [x]) rfl rfl
set_option maxHeartbeats 4000000 in
set_option maxRecDepth 100000 in
theorem Sum_ok (v : Value) (l : List Int) (w : World) (h : RBy w v l) (hl : l.length ≤ 100000) (hGL : GL w) :
    Calls Tryd.prog 35 #[v] w fun e w' => e = .returned (idv (sumI l)) ∧ Below w.heap.size w w' := by
  obtain ⟨a, c, rfl, h1, h2⟩ := Rd.form' h
  go_enter Tryd.func35, Tryd.ntmps35
  go_wp2_with fail
  change Calls _ _ _ (w.alloc (.cells (kc .u8 (List.replicate 32 0)).toArray 24)) _
  have a2 := WA.new .u8 w 24 (List.replicate 32 0)
  have hbW : Below w.heap.size w (w.alloc (.cells (kc .u8 (List.replicate 32 0)).toArray 24)) := (Below.refl _ _).alloc (Nat.le_refl _) _
  have hsW : w.heap.size < (w.alloc (.cells (kc .u8 (List.replicate 32 0)).toArray 24)).heap.size := by simp
  generalize w.alloc (.cells (kc .u8 (List.replicate 32 0)).toArray 24) = W at *
  refine (CloneB _ l.length (byc l) W (RBy.below h hbW) (byc_one l) (by omega)).mono ?_
  rintro e w1 ⟨v1, rfl, ho1, hb1⟩
  obtain ⟨HB, hHB⟩ : ∃ HB, HB = W.heap.size := ⟨_, rfl⟩
  rw [← hHB] at hb1 hsW
  have hB1 : HB ≤ W.heap.size := by omega
  have hB2 : W.heap.size ≤ HB := by omega
  clear hHB
  obtain ⟨a1, c1, rfl, h3, h4⟩ := Rd.form' (Rd.own ho1)
  have hg := Gs.clip (base := HB) (Rd.own ho1)
  have hsz1 := hb1.size
  clear ho1
  go_wp2_with fail
  refine (ClipB a1 l.length c1 w1 h3 h4).mono ?_
  rintro e w2 ⟨rfl, rfl⟩
  go_wp2_with (first
    | (with_reducible refine wpList_at 16 ?_; go_loud (refine apU8 (.tmp 15) _ 16 HB (.slice a1 l.length l.length) l.length (byc l) 128 rfl rfl rfl rfl rfl rfl rfl rfl rfl hg (by omega) (by omega) ?_); intro v2 w2 hown2 hg2)
    | fail)
  have hb2 : Below HB W w2 := hb1.trans (hg2.below (by omega))
  have ho2 : OB w2 HB v2 (l ++ [128]) := OB.mk_app hown2 (m := [128]) rfl rfl
  have hpz : padZ l.length ≤ 63 := by unfold padZ; omega
  have HPZ := Lib.hid (show padZ l.length = (119 - l.length % 64) % 64 from rfl)
  clear hown2 hg2 hg hsz1 hb1
  go_loopw [4] (fun v wr => ∃ k : Nat, k ≤ padZ l.length ∧ OB wr HB v (l ++ [128] ++ List.replicate k 0) ∧ Below HB W wr)
    (fun v _ => padZ l.length + l.length + 1 - lenV v)
  case atStart => exact ⟨0, Nat.zero_le _, by simpa using ho2, hb2⟩
  case round =>
    clear ho2 hb2
    obtain ⟨k, hk, hown, hbel⟩ := hrel
    obtain ⟨a4, c4, rfl, h5, h6⟩ := Rd.form' hown.rby
    have hgs := hown.gs
    have hln : (l ++ [128] ++ List.replicate k 0).length = l.length + 1 + k := by simp only [List.length_append, List.length_replicate, List.length_singleton]
    have HLL := Lib.hid (rfl : (l ++ [128] ++ List.replicate k 0).length = (l ++ [128] ++ List.replicate k 0).length)
    generalize hnn : (l ++ [128] ++ List.replicate k 0).length = n at h5 hgs hln ⊢
    have HNN := Lib.hid hnn
    have HLN := Lib.hid hln
    clear hnn hln HLL
    have n1 : n ≤ 100100 := by have := HLN.out; omega
    by_cases hlt : k < padZ l.length
    · have hd : (((n : Int) % 64) != 56) = true := by
        have := HLN.out; have := HPZ.out
        simp only [bne_iff_ne, ne_eq]; omega
      have hsz := hbel.size
      go_wp2_with (first
        | (with_reducible refine wpList_at 23 ?_; refine apU8 (.tmp 22) _ 23 HB (.slice a4 n c4) n _ 0 rfl rfl rfl rfl rfl rfl rfl rfl rfl hgs (by omega) (by omega) ?_; intro v3 w3 hown3 hg3)
        | fail)
      have ho3 := OB.mk1 hown3 HNN.out
      have hb3 := hbel.trans (hg3.below (by omega))
      go_roundw
      case rel => exact ⟨k + 1, by omega, by rw [List.replicate_succ', ← List.append_assoc]; exact ho3, hb3⟩
      case measure =>
        have hl3 := HNN.out
        have := HLN.out
        obtain ⟨a5, c5, rfl, _, _⟩ := Rd.form' ho3.rby
        simp [lenV]; omega
    · have hd : (((n : Int) % 64) != 56) = false := by
        have := HLN.out; have := HPZ.out
        simp only [bne_eq_false_iff_eq]; omega
      obtain ⟨L, hL, hLL, hown⟩ : ∃ L, L = l ++ [128] ++ List.replicate (padZ l.length) 0 ∧ L.length = n ∧ OB wr HB (.slice a4 n c4) L := by
        have e : k = padZ l.length := by omega
        have e2 := HNN.out
        rw [← e2]
        refine ⟨_, by rw [e], rfl, ?_⟩
        rw [e2]
        have := hown
        rw [e2] at this
        exact this
      have HL := Lib.hid hL
      have HLL := Lib.hid hLL
      have n64 : (n + 8) % 64 = 0 := by have := HLN.out; have := HPZ.out; omega
      have N64 := Lib.hid n64
      clear hL hLL n64 hgs HNN hlt hk
      go_wp2_with fail
      go_loopw [4, 5] (fun v j wr => ∃ i : Nat, i ≤ 8 ∧ j = .int .i64 (7 - (i : Int)) ∧ OB wr HB v (L ++ (be8 l.length).take i) ∧ Below HB W wr)
        (fun _ j _ => (intOf j + 1).toNat)
      case atStart => exact ⟨0, Nat.zero_le _, rfl, by simpa using hown, hbel⟩
      case round =>
        clear hown hbel
        obtain ⟨i, hi, rfl, hown, hbel⟩ := hrel
        by_cases hlt : i < 8
        · have hsz := hbel.size
          have hgs := hown.gs
          have hlen : (L ++ (be8 l.length).take i).length = n + i := by
            rw [List.length_append, HLL.out, List.length_take, be8_length]; omega
          obtain ⟨a5, c5, rfl, h7, h8⟩ := Rd.form' hown.rby
          rw [hlen] at hgs h7 ⊢
          have HLE := Lib.hid hlen
          have HBT := Lib.hid (be8_take l.length i hlt)
          clear hlen hown
          go_wp2_with (first
            | (with_reducible refine wpList_at 35 ?_; refine apU8 (.tmp 29) (.tmp 34) 35 HB (.slice a5 (n + i) c5) (n + i) _ ((l.length : Int) * 8 / 2 ^ (8 * (7 - i)) % 256) rfl rfl rfl rfl rfl rfl rfl rfl rfl hgs (by omega) (by omega) ?_; intro v3 w3 hown3 hg3)
            | fail)
          have ho3 := OB.mk1 hown3 HLE.out
          have hb3 := hbel.trans (hg3.below (by omega))
          go_roundw
          case rel => exact ⟨i + 1, by omega, by go_num, by rw [HBT.out, ← List.append_assoc]; exact ho3, hb3⟩
          case measure => simp [intOf]; omega
        · obtain ⟨X, HX, hown⟩ : ∃ X, Hid (X = padded l) ∧ OB wr HB u4 X := by
            have e : i = 8 := by omega
            rw [e, be8_all] at hown
            refine ⟨_, Lib.hid ?_, hown⟩
            rw [HL.out]; rfl
          have hXl : X.length = n + 8 := by
            rw [HX.out]; unfold padded; rw [List.length_append, ← HL.out, HLL.out, be8_length]
          have HXL := Lib.hid hXl
          clear hXl
          have hgl : GL wr := ⟨(hGL.1.below hbW).belowB hbel (by have := hGL.1.lt; omega), (hGL.2.below hbW).belowB hbel (by have := hGL.2.lt; omega)⟩
          obtain ⟨Tq, hTq⟩ := hgl.2
          obtain ⟨Q, HQ, hq8, hqq⟩ : ∃ Q, Hid (squaresL = Q) ∧ Q.length = 8 ∧ WA .u32 wr 0 Tq Q := ⟨_, Lib.hid rfl, squaresL_length, hTq⟩
          have hsz := hbel.size
          go_wp2_with (first
            | (with_reducible refine wpList_at 37 ?_; go_loud (refine wpList_ldA 91 (.global 0) .u32 _ _ Q 8 23 rfl rfl rfl hqq Tryd.underlying91 sz8 hq8 ?_))
            | (with_reducible refine wpList_at 6 ?_; refine wpList_allocStore rfl rfl 91 (.tmp 37) 6 rfl rfl rfl rfl rfl (kc .u32 Q) rfl 8 zs8 (by rw [List.length_map]; exact hq8) (kc_one' _ _) ?_)
            | fail)
          have w6 := WA.new .u32 wr 91 Q
          have hb6 : Below HB W (wr.alloc (.cells (kc .u32 Q).toArray 91)) := hbel.alloc (by omega) _
          have hx6 : RBy (wr.alloc (.cells (kc .u32 Q).toArray 91)) u4 X := Rd.alloc hown.rby _
          have hbG : Below wr.heap.size wr (wr.alloc (.cells (kc .u32 Q).toArray 91)) := (Below.refl _ _).alloc (Nat.le_refl _) _
          have hg6 : wr.heap.size < (wr.alloc (.cells (kc .u32 Q).toArray 91)).heap.size := by simp
          generalize wr.alloc (.cells (kc .u32 Q).toArray 91) = W6 at *
          obtain ⟨q0, q1, q2, q3, q4, q5, q6, q7, rfl⟩ := len8 hq8
          have hgl6 : GL W6 := ⟨(hGL.1.below hbW).belowB hb6 (by have := hGL.1.lt; omega), (hGL.2.below hbW).belowB hb6 (by have := hGL.2.lt; omega)⟩
          have hXr := hown.rby
          generalize hGG : wr.heap.size = G at *
          go_simp
          generalize wr = w0 at *
          go_loopw [4] (fun v w2 => ∃ j : Nat, 64 * j ≤ n + 8 ∧ RBy w0 v (X.drop (64 * j)) ∧ Below G w0 w2 ∧ ∃ a b c d e f g h : Int, WA .u32 w2 G 91 [a, b, c, d, e, f, g, h] ∧ Hid (hs X j = [a, b, c, d, e, f, g, h]))
            (fun v _ => lenV v)
          case atStart => exact ⟨0, Nat.zero_le _, hXr, hbG, _, _, _, _, _, _, _, _, w6, Lib.hid (by rw [hs_zero]; exact HQ.out)⟩
          case round =>
            obtain ⟨j, hj, hrd, hbj, va, vb, vc, vd, ve, vf, vg, vh, hw, HH⟩ := hrel
            by_cases hlt : 64 * j < n + 8
            · have hN : (X.drop (64 * j)).length = n + 8 - 64 * j := by rw [List.length_drop, HXL.out]
              have hN64 : 64 ≤ n + 8 - 64 * j := by have := N64.out; omega
              obtain ⟨b, off, c', rfl, hc1, hc2, hbl, hcell⟩ := Rd.form hrd (by omega)
              rw [hN] at hc1 ⊢
              generalize hNN : n + 8 - 64 * j = N at *
              have HNN := Lib.hid hNN
              have HN := Lib.hid hN
              clear hNN hN
              have hN0 : decide ((N : Int) > 0) = true := decide_eq_true (by omega)
              obtain ⟨c0, c1, c2, c3, c4, c5, c6, c7⟩ := hw.c8
              go_wp2_with fail
              have hcN : 64 ≤ c' := by omega
              have hcI : (64 : Int) ≤ (c' : Int) := by omega
              go_still_tail 3, (by kernel_rfl)
              change wpList _ _ _ _ _ wr.drew
              have hw2 : WA .u32 wr.drew G 91 [va, vb, vc, vd, ve, vf, vg, vh] := hw
              have hb2 : Below G w0 wr.drew := hbj.drew
              generalize wr.drew = w3 at *
              clear c0 c1 c2 c3 c4 c5 c6 c7 hw hbj
              have hgl3 : GL w3 := ⟨hgl.1.belowB hb2 (by have := hgl.1.lt; omega), hgl.2.belowB hb2 (by have := hgl.2.lt; omega)⟩
              have hcall := mix_ok b off c' va vb vc vd ve vf vg vh ((X.drop (64 * j)).take 64) w3 (by rw [List.length_take, HN.out]; omega)
                (fun q hq => by
                  refine cellB hb2 (hcell q _ ?_) (show b < G by omega)
                  have hqn : q < (X.drop (64 * j)).length := by rw [HN.out]; omega
                  simp only [byc, List.getElem?_map, List.getElem?_eq_getElem hqn, Option.map_some]
                  rw [List.getD_eq_getElem?_getD, List.getElem?_take_of_lt hq, List.getElem?_eq_getElem hqn]
                  rfl) hcN (by have := hb2.size; omega) hgl3
              have HC := Lib.hid hcall
              have hst : Hid (hs X (j + 1) = mixI [va, vb, vc, vd, ve, vf, vg, vh] ((X.drop (64 * j)).take 64)) := Lib.hid (by rw [hs_succ, HH.out])
              have hm8 := mixI_len8 [va, vb, vc, vd, ve, vf, vg, vh] ((X.drop (64 * j)).take 64) rfl
              clear hcall
              generalize mixI [va, vb, vc, vd, ve, vf, vg, vh] ((X.drop (64 * j)).take 64) = V at HC hst hm8
              go_wp2_with fail
              refine HC.out.mono ?_
              rintro e w4 ⟨rfl, hb4⟩
              have hw4 := hw2.below hb4
              have hb5 : Below G w0 w4 := hb2.trans (hb4.mono (by have := hb2.size; omega))
              go_wp2_with (first
                | (with_reducible refine wpList_atS 6 ?_; refine wpList_stA 91 (.tmp 6) (.tmp 46) .u32 _ _ _ V 8 rfl rfl rfl hw4 rfl sz8 rfl hm8 ?_)
                | fail)
              have hw5 := hw4.setRow V
              have hb6' : Below G w0 (w4.setRow G (kc .u32 V).toArray) := Below.setRow hb5 (Nat.le_refl _) _
              have hrd2 := RBy.drop64 hrd HN.out hN64 hc1 hc2
              rw [List.drop_drop] at hrd2
              obtain ⟨p0, p1, p2, p3, p4, p5, p6, p7, rfl⟩ := len8 hm8
              go_roundw
              case rel => exact ⟨j + 1, by have := HNN.out; omega, by rw [show 64 * (j + 1) = 64 * j + 64 by omega]; exact hrd2, hb6', _, _, _, _, _, _, _, _, hw5, hst⟩
              case measure => simp [lenV]; omega
            · obtain ⟨V, HV8, hwV, hv8⟩ : ∃ V, Hid (hs X ((n + 8) / 64) = V) ∧ WA .u32 wr G 91 V ∧ V.length = 8 := by
                refine ⟨_, Lib.hid ?_, hw, rfl⟩
                have e : j = (n + 8) / 64 := by omega
                rw [← e]; exact HH.out
              have hlen0 : (X.drop (64 * j)).length = 0 := by rw [List.length_drop, HXL.out]; omega
              obtain ⟨a7, c7, rfl, _, _⟩ := Rd.form' hrd
              rw [hlen0]
              clear hw HH hlen0
              go_wp2_with fail
              change Code.wp _ _ _ _ (wr.alloc (.cells (kc .u8 (List.replicate 32 0)).toArray 24))
              have a7 := WA.new .u8 wr 24 (List.replicate 32 0)
              have b7 : Below wr.heap.size wr (wr.alloc (.cells (kc .u8 (List.replicate 32 0)).toArray 24)) := (Below.refl _ _).alloc (Nat.le_refl _) _
              generalize wr.alloc (.cells (kc .u8 (List.replicate 32 0)).toArray 24) = W7 at *
              generalize wr = w9 at *
              go_loopw [47] (fun v w2 => ∃ i : Nat, i ≤ 32 ∧ v = .int .i64 i ∧ WA .u8 w2 w9.heap.size 24 (outN V i) ∧ Below w9.heap.size w9 w2)
                (fun v _ => 32 - (intOf v).toNat)
              case atStart => exact ⟨0, Nat.zero_le _, rfl, a7, b7⟩
              case round =>
                clear a7 b7
                obtain ⟨i, hi, rfl, a7, b7⟩ := hrel
                have hwr := hwV.belowB b7 hwV.lt
                by_cases hlt : i < 32
                · have c6 := hwr.cell (j := i / 4) (by omega)
                  have d7 := a7.cell (j := i) (by simp; omega)
                  have f7 := a7.frozen i
                  have hst : Hid ((outN V i).set i (V.getD (i / 4) 0 / 2 ^ (24 - 8 * (i % 4)) % 256) = outN V (i + 1)) := Lib.hid rfl
                  generalize V.getD (i / 4) 0 = x at c6 hst
                  generalize (outN V i).getD i 0 = y at d7
                  go_wp2_with fail
                  go_roundw
                  case rel => exact ⟨i + 1, by omega, by go_num, by rw [← hst.out]; exact a7.set i _, Below.setCell b7 (by simp) _⟩
                  case measure => simp [intOf]; omega
                · obtain ⟨D, HD, a7, hDl⟩ : ∃ D, Hid (sumL l = D) ∧ WA .u8 wr w9.heap.size 24 D ∧ D.length = 32 := by
                    have e : i = 32 := by omega
                    rw [e] at a7
                    refine ⟨_, Lib.hid ?_, a7, outN_length _ _⟩
                    rw [sumL_eq, ← HX.out, HXL.out, HV8.out]
                  have hbw0 : Below w.heap.size w w0 := hbW.trans (hbel.mono (by omega))
                  have hbw9 : Below w.heap.size w w9 := hbw0.trans (hbj.mono (by omega))
                  have hbw : Below w.heap.size w wr := hbw9.trans (b7.mono (by have := hbw9.size; omega))
                  have a2' := ((a2.belowB hbel hsW).belowB hbj (by omega)).belowB b7 (by have := hwV.lt; omega)
                  go_wp2_with (first
                    | (with_reducible refine wpList_at 63 ?_; refine wpList_ldA 24 (.tmp 7) .u8 _ _ D 32 5 rfl rfl rfl a7 Tryd.underlying24 szID hDl ?_)
                    | (with_reducible refine wpList_atS 2 ?_; refine wpList_stA 24 (.tmp 2) (.tmp 63) .u8 _ _ _ D 32 rfl rfl rfl a2' rfl szID List.length_replicate hDl ?_)
                    | fail)
                  try simp only [Exit.inBlock, Exit.then]
                  refine bodyPost_ret (results_A rfl _ w.heap.size .u8 24 D 32 5 rfl (a2'.setRow _) Tryd.underlying24 szID hDl) rfl ?_
                  exact ⟨by simp only [idv, idc, sumI, HD.out], Below.setRow hbw (Nat.le_refl _) _⟩
end Go.Proofs.YtdpobhcpmpfioaaDoor

import Derived.Test.YtdpobhcpmpfioaaDoorM19
import Derived.Test.YtdpobhcpmpfioaaDoorM20
set_option linter.all false
set_option linter.unusedVariables false
set_option linter.unusedSimpArgs false
namespace Go.Proofs.YtdpobhcpmpfioaaDoor
open Go.RowKit

def badI (t : Tx) (id : ID) (i : Int) : Bool := decide (¬ (⟨id, i⟩ : Pt) ∈ points t)
def Pool.bad (P : Pool) (t : Tx) (id : ID) : Bool := match P.find id with | some e => (dusts e.tx).any (badI t id) | none => false
def Pool.spends (P : Pool) (t : Tx) : Int := if (P.parents t).any (P.bad t) then 26 else 0
theorem dusts_in (t : Tx) (hl : t.outs.length ≤ 50) : ∀ i ∈ dusts t, 0 ≤ i ∧ i < 50 := by
  intro i hi
  unfold dusts dustsN at hi
  obtain ⟨k, hk, rfl⟩ := List.mem_map.1 hi
  have := List.mem_range.1 (List.mem_filter.1 hk).1
  omega
theorem dusts_len (t : Tx) (hl : t.outs.length ≤ 50) : (dusts t).length ≤ 50 := by
  unfold dusts dustsN
  rw [List.length_map]
  refine Nat.le_trans (List.length_filter_le _ _) ?_
  simpa using hl
theorem wrap32 (n : Int) (h : 0 ≤ n ∧ n < 4294967296) : IntKind.u32.wrap n = n := by
  simp [IntKind.wrap, IntKind.bits, IntKind.signed]
  omega
theorem spends_of {P : Pool} {t : Tx} {r : List ID} (h : IsRising r (P.parents t)) (b : Bool) (hb : r.any (P.bad t) = b) : P.spends t = if b then 26 else 0 := by
  have : (P.parents t).any (P.bad t) = b := by
    rw [← hb]
    apply Bool.eq_iff_iff.2
    simp only [List.any_eq_true]
    constructor
    · rintro ⟨x, hx, h'⟩
      exact ⟨x, (h.2 x).2 hx, h'⟩
    · rintro ⟨x, hx, h'⟩
      exact ⟨x, (h.2 x).1 hx, h'⟩
  simp [Pool.spends, this]

set_option maxHeartbeats 8000000 in
set_option maxRecDepth 100000 in
theorem Spends_of (HR : RisingOk) (base : Nat) (w : World) (p m1 m2 : Nat) (ov : Value) (P : Pool) (t : Tx) (i u : Value) (h : PR base w p m1 m2 ov P) (hi : RIns w i t.ins) (hu : ROuts w u t.outs) (hwf : TxWf t) (hok : ∀ x ∈ t.ins, IdOk x.prev) :
    Calls Tryd.prog 7 #[.pointer (some ⟨p, 0, none⟩), .agg (txc t i u).toArray] w fun e w' => e = .returned (.int .i64 (P.spends t)) ∧ Below w.heap.size w w' := by
  have H := Lib.hid h
  have HO := Lib.hid hok
  have HW := Lib.hid hwf
  have n2 := hwf.i2
  have hsu := ROuts.sl hu
  have hpok : ∀ x ∈ points t, PtOk x := by
    intro x hx
    obtain ⟨y, hy, rfl⟩ := List.mem_map.1 hx
    exact ⟨hok y hy, (hwf.iv y hy).1⟩
  have HPO := Lib.hid hpok
  clear h hok hwf hpok
  go_enter Tryd.func7, Tryd.ntmps7
  obtain ⟨W, hW, b1, hbW⟩ : ∃ W, w.alloc (.cells (txc t i u).toArray 32) = W ∧ HB W w.heap.size 32 (txc t i u) ∧ Below w.heap.size w W := ⟨_, rfl, HB.new _ _ _, (Below.refl _ _).alloc (Nat.le_refl _) _⟩
  have hri := RIns.below hi hbW
  have hro := ROuts.below hu hbW
  have HP := Lib.hid (H.out.below hbW)
  have r1 := b1.range
  clear hi hu
  go_wp2_with (first
    | (with_reducible refine wpList_at 12 ?_; go_loud (refine ldTx (w := W) (.tmp 3) _ _ t i u rfl rfl rfl r1 ?_))
    | fail)
  clear hW
  refine (Points_ok (txc t i u) t W ⟨i, u, rfl, hri, hro⟩ (by omega)).mono ?_
  rintro e w1 ⟨pv, rfl, hpv, hb1⟩
  have hp1 : Rd w1 61 33 pv (points t).length ((points t).flatMap ptc) := by
    have := Rd.own hpv
    have hl : (points t).length = t.ins.length := by simp [points]
    rwa [← hl] at this
  obtain ⟨pa, pc, rfl, _, _⟩ := hp1.form'
  have r2 := (b1.below hb1).range
  clear hpv
  go_wp2_with (first
    | (with_reducible refine wpList_at 15 ?_; go_loud (refine ldTx (w := w1) (.tmp 3) _ _ t i u rfl rfl rfl r2 ?_))
    | fail)
  refine (Parents_of HR base w1 p m1 m2 ov P t i u (HP.out.below hb1) (RIns.below hri hb1) hsu (by omega) HO.out).mono ?_
  rintro e w2 ⟨rv, r, rfl, hr, hrr, hb2⟩
  have hB2 := hb1.trans (hb2.mono hb1.size)
  have hs2 := hB2.size
  have hsW := hbW.size
  have HR2 := Lib.hid (HP.out.below hB2)
  have hp2 := Rd.below hp1 hb2
  have hplen : (points t).length ≤ 50 := by simp [points]; omega
  have HRi := Lib.hid hr
  have hrok : ∀ x ∈ r, IdOk x := by
    intro x hx
    have hx := (hr.2 x).1 hx
    obtain ⟨hx, _⟩ := List.mem_filter.1 hx
    obtain ⟨y, hy, rfl⟩ := List.mem_map.1 hx
    exact HO.out y hy
  have HROK := Lib.hid hrok
  have hBw2 := hbW.trans (hB2.mono hsW)
  clear hb1 hb2 hB2 hr hrok hp1 hri hro b1 r1 r2
  obtain ⟨ra, rc, rfl, hrc1, hrc2⟩ := hrr.form'
  go_wp2_with fail
  go_loopw [18] (fun j wr => ∃ k : Nat, k ≤ r.length ∧ j = .int .i64 k ∧ Hid ((r.take k).any (P.bad t) = false) ∧ Below w2.heap.size w2 wr) (fun j _ => r.length - (intOf j).toNat)
  case atStart => exact ⟨0, Nat.zero_le _, rfl, by show (r.take 0).any _ = false; simp, Below.refl _ _⟩
  case round =>
    obtain ⟨k, hk, rfl, hno, hbel⟩ := hrel
    by_cases hlt : k < r.length
    · obtain ⟨b, off, c', he, _, _, hb, hat⟩ := Rd.at_ hrr idc_length (by omega)
      obtain ⟨rfl, rfl⟩ : ra = some ⟨b, off, none⟩ ∧ rc = c' := by simpa using he
      have hrx := range_belowB (hat k _ (List.getElem?_eq_getElem hlt)) hbel hb
      have hxo := HROK.out _ (List.getElem_mem hlt)
      have hmem := (HRi.out.2 _).1 (List.getElem_mem hlt)
      have hfind : ∃ e, P.find r[k] = some e ∧ e ∈ P.ents := by
        have := (List.mem_filter.1 hmem).2
        rcases find_spec P r[k] with ⟨e, he, _, h⟩ | ⟨_, h⟩
        · exact ⟨e, h, he⟩
        · simp [h] at this
      obtain ⟨en, hfe, hen⟩ := hfind
      have hcons : r.take (k + 1) = r.take k ++ [r[k]] := List.take_succ_eq_append_getElem hlt
      have hany : (r.take (k + 1)).any (P.bad t) = (dusts en.tx).any (badI t r[k]) := by
        rw [hcons, List.any_append, hno.out]
        simp [Pool.bad, hfe]
      have hbad : (dusts en.tx).any (badI t r[k]) = true → P.spends t = 26 := fun hx => by
        have : r.any (P.bad t) = true := List.any_eq_true.2 ⟨_, List.getElem_mem hlt, by simp [Pool.bad, hfe, hx]⟩
        rw [spends_of HRi.out true this]
        rfl
      have HA := Lib.hid hany
      have HBD := Lib.hid hbad
      have HX := Lib.hid hxo
      have HFE := Lib.hid hfe
      clear hcons hany hbad hno hat hxo hmem hfe
      generalize r[k] = x at *
      have hsz := hbel.size
      have hdl := dusts_len en.tx (H.out.wf en hen).t.o2
      have HDI := Lib.hid (dusts_in en.tx (H.out.wf en hen).t.o2)
      have hxb := HB.new wr 24 (idc x)
      have hbA : Below w2.heap.size w2 (wr.alloc (.cells (idc x).toArray 24)) := hbel.alloc (by omega) _
      have hsA : (wr.alloc (.cells (idc x).toArray 24)).heap.size = wr.heap.size + 1 := by simp
      have rA := hxb.range
      go_wp2_with (first
        | (with_reducible refine wpList_at 21 ?_; go_loud (refine ldID (.tmp 20) _ _ x rfl rfl rfl hrx ?_))
        | (with_reducible refine wpList_at 7 ?_; go_loud (refine asID (.tmp 21) 7 x rfl rfl rfl rfl rfl rfl rfl rfl ?_))
        | (with_reducible refine wpList_at 24 ?_; go_loud (refine ldID (.tmp 7) _ _ x rfl rfl rfl rA ?_))
        | fail)
      generalize wr.alloc (.cells (idc x).toArray 24) = WA at *
      refine (Ref_ok base WA p m1 m2 ov P x (HR2.out.below hbA) HX.out).mono ?_
      rintro e w3 ⟨fb, c, rfl, hb3, hc, h1c, hfb, hse, _⟩
      obtain ⟨ei, eu, ed, rfl, hTE⟩ := hse en HFE.out
      have hB3 := hbA.trans (hb3.mono hbA.size)
      have hxb3 := hxb.below hb3
      have hs3 := hb3.size
      have hB4 : Below w2.heap.size w2 (w3.alloc (.cells (entc en ei eu ed).toArray 42)) := hB3.alloc (by omega) _
      have hs4 : (w3.alloc (.cells (entc en ei eu ed).toArray 42)).heap.size = w3.heap.size + 1 := by simp
      have hxb4 := hxb3.alloc (.cells (entc en ei eu ed).toArray 42)
      have hTE4 := hTE.below ((Below.refl w3.heap.size w3).alloc (Nat.le_refl _) (.cells (entc en ei eu ed).toArray 42))
      have rE := (HB.new w3 42 (entc en ei eu ed)).sub (entc_tx_get en ei eu ed)
      clear hfb hse hrx rA hxb hbA hb3 hB3 hxb3 hTE hbel
      go_wp2_with (first
        | (with_reducible refine wpList_at 8 ?_; go_loud (refine wpList_allocStore rfl rfl 42 (.tmp 26) 8 rfl rfl rfl rfl rfl (entc en ei eu ed) rfl 72 zsEnt hc h1c ?_))
        | (with_reducible refine wpList_at 29 ?_; go_loud (refine ldTx (.tmp 28) _ _ en.tx ei eu rfl rfl rfl rE ?_))
        | fail)
      generalize w3.alloc (.cells (entc en ei eu ed).toArray 42) = W4 at *
      refine (Dusts_ok en.tx ei eu W4 (H.out.wf en hen).t hTE4.u.ro).mono ?_
      rintro e w5 ⟨dv, rfl, hdv, hb5⟩
      have hB5 := hB4.trans (hb5.mono hB4.size)
      have hxb5 := hxb4.below hb5
      have hdr := Rd.own hdv
      obtain ⟨da, dc, rfl, hdc1, hdc2⟩ := hdr.form'
      clear hdv hB4 hxb4 hTE4 rE hb5
      go_wp2_with fail
      have hs5 := hB5.size
      have hp5 := Rd.below hp2 hB5
      generalize hdsq : dusts en.tx = ds at *
      clear hdsq
      go_loopw [32] (fun j wr2 => ∃ k2 : Nat, k2 ≤ ds.length ∧ j = .int .i64 k2 ∧ Hid ((ds.take k2).any (badI t x) = false) ∧ Below w5.heap.size w5 wr2) (fun j _ => ds.length - (intOf j).toNat)
      case atStart => exact ⟨0, Nat.zero_le _, rfl, by show (ds.take 0).any _ = false; simp, Below.refl _ _⟩
      case round =>
        obtain ⟨k2, hk2, rfl, hno2, hbel2⟩ := hrel
        by_cases hlt2 : k2 < ds.length
        · obtain ⟨b2, off2, c2, he2, _, _, hb2, hat2⟩ := hdr.form (by omega)
          obtain ⟨rfl, rfl⟩ : da = some ⟨b2, off2, none⟩ ∧ dc = c2 := by simpa using he2
          have hcell := Below.cellv hbel2 (hat2 k2 (.int .i64 ds[k2]) (by simp [List.getElem?_eq_getElem hlt2])) hb2
          have hin := HDI.out _ (List.getElem_mem hlt2)
          have hcons2 : ds.take (k2 + 1) = ds.take k2 ++ [ds[k2]] := List.take_succ_eq_append_getElem hlt2
          have hany2 : (ds.take (k2 + 1)).any (badI t x) = badI t x ds[k2] := by rw [hcons2, List.any_append, hno2.out]; simp
          have hbad2 : badI t x ds[k2] = true → P.spends t = 26 := fun hx => HBD.out (List.any_eq_true.2 ⟨_, List.getElem_mem hlt2, hx⟩)
          have HA2 := Lib.hid hany2
          have HB2 := Lib.hid hbad2
          clear hcons2 hany2 hbad2 hno2 hat2 he2
          generalize ds[k2] = z at *
          have hzz : 0 ≤ z ∧ z < 4294967296 := ⟨hin.1, by have := hin.2; omega⟩
          have hwr := wrap32 z hzz
          have hsz2 := hbel2.size
          have rx := (hxb5.below hbel2).range
          have hcp := ContainsPt_ok _ (points t) ⟨x, z⟩ _ (Rd.below hp5 hbel2) (by omega) HPO.out ⟨HX.out, hzz⟩
          have hbz : badI t x z = !decide ((⟨x, z⟩ : Pt) ∈ points t) := by simp [badI]
          have HCP := Lib.hid hcp
          rw [hbz] at HA2 HB2
          generalize decide ((⟨x, z⟩ : Pt) ∈ points t) = m at *
          clear hcp hbz
          go_wp2_with (first
            | (with_reducible refine wpList_at 37 ?_; go_loud (refine ldID (.tmp 7) _ _ x rfl rfl rfl rx ?_))
            | (with_reducible refine wpList_at 40 ?_; go_loud (refine buPt (.tmp 37) (.tmp 39) x z rfl rfl rfl rfl ?_))
            | fail)
          refine HCP.out.mono ?_
          rintro e w7 ⟨rfl, hb7⟩
          have hB7 := hbel2.trans (hb7.mono hsz2)
          cases m with
          | false =>
            have hS := HB2.out rfl
            have HS := Lib.hid hS
            clear hS HB2
            go_wp2_with fail
            go_ret
            exact ⟨by rw [HS.out]; rfl, hBw2.trans ((hB5.trans (hB7.mono hs5)).mono (by omega))⟩
          | true =>
            clear HB2
            go_wp2_with fail
            go_roundw
            case rel => exact ⟨k2 + 1, by omega, by go_num, HA2, hB7⟩
            case measure => simp [intOf]; omega
        · obtain rfl : k2 = ds.length := by omega
          have ht : ds.take ds.length = ds := List.take_length
          rw [ht] at hno2
          have HN : Hid ((r.take (k + 1)).any (P.bad t) = false) := Lib.hid (by rw [HA.out]; exact hno2.out)
          clear hno2 HA HBD
          go_wp2_with fail
          go_roundw
          case rel => exact ⟨k + 1, by omega, by go_num, HN, hB5.trans (hbel2.mono hs5)⟩
          case measure => simp [intOf]; omega
    · obtain rfl : k = r.length := by omega
      have ht : r.take r.length = r := List.take_length
      rw [ht] at hno
      have HS : Hid (P.spends t = 0) := Lib.hid (by rw [spends_of HRi.out false hno.out]; rfl)
      clear hno
      go_wp2_with fail
      go_ret
      exact ⟨by rw [HS.out]; rfl, hBw2.trans (hbel.mono (by omega))⟩
end Go.Proofs.YtdpobhcpmpfioaaDoor

/- The law SchoolReads: the walk, a chart by its number. -/
import Derived.Test.YtidlmbajpbbilaaLwA
namespace Go.Proofs.Ytidlmbajpbbilaa
open Go.RowKit

set_option maxRecDepth 100000 in
set_option maxHeartbeats 8000000 in
theorem lwreads_good (s : Sch) (A : Option Addr) (c : Nat) (ch : List Int) (n kind : Int) (w : World) (HRR : Hid (s.wreads w w.heap.size)) (HN0 : Hid s.nil0) (HAA : Hid (Sl intCell 1 w w.heap.size A ch)) (hn : A = none → c = 0)
    (hg : largeB s 4096 = false) (hc10 : ch.length ≤ 10) (hv : schB s = true) (hb : inB n 0 (chartsN s.signs s.places.toNat - 1) = true) :
    Calls Try.prog 10 #[scv s s.rv, .slice A ch.length c, .agg #[.int .i64 n, .int .i64 kind]] w fun e w' => e = .returned (.bool true) ∧ Below w.heap.size w w' := by
  obtain ⟨hlen, hall, -⟩ := not_large hg
  have d1 : decide (10 < (ch.length : Int)) = false := by simp; omega
  have d1' : decide (10 < ch.length) = false := by simp; omega
  have hrd := reads_of_weak HRR.out hlen hall
  obtain ⟨E0, hE0⟩ : ∃ x, errB (schB s) = x := ⟨_, rfl⟩
  obtain ⟨L, er, hLE⟩ : ∃ x y, chartR s n = (x, y) := ⟨_, _, rfl⟩
  obtain ⟨nm, ne, hNE⟩ : ∃ x y, numberR s ch = (x, y) := ⟨_, _, rfl⟩
  obtain ⟨rk, RQ, RM, re, hRE⟩ : ∃ x y z u, readR s ch kind = (x, y, z, u) := ⟨_, _, _, _, rfl⟩
  have HE0 := Lib.hid hE0; have HLE := Lib.hid hLE; have HNE := Lib.hid hNE; have HRE := Lib.hid hRE
  clear hE0 hLE hNE hRE
  have HR := Lib.hid hrd
  clear hrd hall
  go_enter Try.func10, Try.ntmps10
  go_wp2_with (first | (go_at_call 14; refine (large_any s 4096 _ ((HRR.out.below (by (repeat (first | exact Below.refl _ _ | assumption | (refine Below.alloc ?_ (by first | omega | (simp; omega) | (simp; done)) _) | (refine Below.setCell ?_ (by first | omega | (simp; omega) | (simp; done)) _) | (refine Below.drew ?_) | (refine belowN ?_ _) | (refine Below.trans ?_ (Below.mono ‹Below _ _ _› (by first | omega | (simp; omega) | (simp; done)))))))).more (by simp; omega))).mono ?_; rintro _ W1 ⟨rfl, hb1⟩; have hw1 : Below w.heap.size w W1 := bl2 (bla (bla (Below.refl _ _))) hb1; have g1 : Blk W1 w.heap.size #[.int .i64 s.places, .int .i64 s.signs, .int .i64 s.kinds, .int .i64 s.answers, s.rv] 24 := ((Blk.at_ rfl).alloc _).below hb1 (by first | omega | (simp; omega) | (simp; done)); have g2 : Blk W1 (w.heap.size + 1) #[.int .i64 n, .int .i64 kind] 87 := (Blk.at_ (by simp)).below hb1 (by first | omega | (simp; omega) | (simp; done)); rw [hg]; have gc := g1.cell; have s0 := gc 0; have s1 := gc 1; have s2 := gc 2; have s3 := gc 3; have s4 := gc 4; have k0 := g2.cell 0; have k1 := g2.cell 1; simp at s0 s1 s2 s3 s4 k0 k1; clear gc))
  go_region
  refine gen_w (fun W => Below w.heap.size w W ∧ Blk W w.heap.size #[.int .i64 s.places, .int .i64 s.signs, .int .i64 s.kinds, .int .i64 s.answers, s.rv] 24) ⟨Below.drew hw1, g1⟩ ?_
  clear hb1 d1 d1' s0 s1 s2 s3 s4 k0 k1 g1 g2 hw1
  clear W1
  rintro W1 ⟨hw1, g1⟩
  go_wp2_with (go_at_call 38; refine (lints_any A c ch _ (by omega) hn (oneCell_ints _) ((HAA.out.below hw1).more hw1.size)).mono ?_; rintro _ W2 ⟨v, rfl, hown, hb2⟩; refine Hid.out ?_)
  have hw2 : Below w.heap.size w W2 := bl2 hw1 hb2
  obtain ⟨A', c', rfl, hA'⟩ := Sl.of_own hown
  have g1 := g1.below hb2 g1.lt
  have s0 := g1.cell 0; have s1 := g1.cell 1; have s2 := g1.cell 2; have s3 := g1.cell 3; have s4 := g1.cell 4
  simp at s0 s1 s2 s3 s4
  have HA' := Lib.hid hA'
  clear hown hA' hb2 hw1
  refine Lib.hid ?_
  go_wp2_with (first | (go_at_call 17; refine (owna_any s _ ((HR.out.below hw2).more hw2.size) HN0.out hlen).mono ?_; rintro _ W3 ⟨s', rfl, hr', hbo, hv', hc1', hn1', hr1'⟩; have HRR' := Lib.hid hr'; clear hr') | (go_at_call 36; refine (chke_any hv' _ HRR'.out).mono ?_; rw [HE0.out]; rintro _ W4 ⟨rfl, hb4⟩; refine Hid.out ?_))
  have hx4 : Below W2.heap.size W2 W4 := bl2 hbo hb4
  have hw4 := bl2 hw2 hx4
  have ha4 := Lib.hid ((HA'.out.below hx4).more hx4.size)
  have g1 := g1.below hx4 g1.lt
  have s0 := g1.cell 0; have s1 := g1.cell 1; have s2 := g1.cell 2; have s3 := g1.cell 3; have s4 := g1.cell 4
  simp at s0 s1 s2 s3 s4
  clear hbo hb4 HRR' hc1' hn1' hr1' hx4 HA' hv'
  refine Lib.hid ?_
  go_wp2_with (first | (go_at_call 17; refine (owna_any s _ ((HR.out.below hw4).more hw4.size) HN0.out hlen).mono ?_; rintro _ W5 ⟨s', rfl, hr', hbo, hv', hc1', hn1', hr1'⟩; have HRR' := Lib.hid hr'; clear hr') | (go_at_call 32; refine (chartF_any s' n _ HRR'.out).mono ?_; rw [hc1', HLE.out]; rintro _ W6 ⟨LA, lc, rfl, hL, hb6⟩; refine Hid.out ?_))
  have hx6 : Below W4.heap.size W4 W6 := bl2 hbo hb6
  have hw6 := bl2 hw4 hx6
  have ha6 := Lib.hid ((ha4.out.below hx6).more hx6.size)
  have HL := Lib.hid hL
  have g1 := g1.below hx6 g1.lt
  have s0 := g1.cell 0; have s1 := g1.cell 1; have s2 := g1.cell 2; have s3 := g1.cell 3; have s4 := g1.cell 4
  simp at s0 s1 s2 s3 s4
  clear hbo hb6 HRR' hc1' hn1' hr1' hx6 ha4 hL hw4 hv'
  refine Lib.hid ?_
  go_wp2_with (first | (go_at_call 17; refine (owna_any s _ ((HR.out.below hw6).more hw6.size) HN0.out hlen).mono ?_; rintro _ W7 ⟨s', rfl, hr', hbo, hv', hc1', hn1', hr1'⟩; have HRR' := Lib.hid hr'; clear hr') | (go_at_call 39; refine (number_any s' ch A' c' _ HRR'.out (by omega) ((ha6.out.below hbo).more hbo.size)).mono ?_; rw [hn1', HNE.out]; rintro _ W8 ⟨rfl, hb8⟩; refine Hid.out ?_))
  have hx8 : Below W6.heap.size W6 W8 := bl2 hbo hb8
  have hw8 := bl2 hw6 hx8
  have ha8 := Lib.hid ((ha6.out.below hx8).more hx8.size)
  have HL8 := Lib.hid ((HL.out.below hx8).more hx8.size)
  have g1 := g1.below hx8 g1.lt
  have s0 := g1.cell 0; have s1 := g1.cell 1; have s2 := g1.cell 2; have s3 := g1.cell 3; have s4 := g1.cell 4
  simp at s0 s1 s2 s3 s4
  clear hbo hb8 HRR' hc1' hn1' hr1' hx8 ha6 HL hw6 hv'
  refine Lib.hid ?_
  go_wp2_with (first | (go_at_call 17; refine (owna_any s _ ((HR.out.below hw8).more hw8.size) HN0.out hlen).mono ?_; rintro _ W9 ⟨s', rfl, hr', hbo, hv', hc1', hn1', hr1'⟩; have HRR' := Lib.hid hr'; clear hr') | (go_at_call 33; refine (read_any s' ch kind A' c' _ HRR'.out (by omega) ((ha8.out.below hbo).more hbo.size)).mono ?_; rw [hr1', HRE.out]; rintro _ W10 ⟨QA, qc, MA, mc, rfl, hQ, hM, hb10⟩; refine Hid.out ?_))
  have hx10 : Below W8.heap.size W8 W10 := bl2 hbo hb10
  have hw10 := bl2 hw8 hx10
  have ha10 := Lib.hid ((ha8.out.below hx10).more hx10.size)
  have HL10 := Lib.hid ((HL8.out.below hx10).more hx10.size)
  have HQ := Lib.hid hQ; have HM := Lib.hid hM
  have g1 := g1.below hx10 g1.lt
  have s0 := g1.cell 0; have s1 := g1.cell 1; have s2 := g1.cell 2; have s3 := g1.cell 3; have s4 := g1.cell 4
  simp at s0 s1 s2 s3 s4
  clear hbo hb10 HRR' hc1' hn1' hr1' hx10 ha8 HL8 hw8 hQ hM hv'
  refine Lib.hid ?_
  go_wp2_with (go_at_call 22; refine (lsame_any A' A c' c ch ch _ (by omega) (sl_al ha10.out (Below.refl _ _)) (sl_al HAA.out hw10)).mono ?_; rintro _ W11 ⟨e1, hb11⟩; rw [beq_self_eq_true] at e1; subst e1; refine Hid.out ?_)
  refine Lib.hid ?_
  have hx11 : Below W10.heap.size W10 W11 := bl3 (Below.refl _ _) hb11
  refine gen_w (fun W => Below w.heap.size w W ∧ Blk W w.heap.size #[.int .i64 s.places, .int .i64 s.signs, .int .i64 s.kinds, .int .i64 s.answers, s.rv] 24 ∧ Blk W W10.heap.size #[.int .i64 rk, .slice QA RQ.length qc, .slice MA RM.length mc] 73 ∧ Hid (Sl intCell 1 W W.heap.size LA L) ∧ Hid (Sl intCell 1 W W.heap.size QA RQ) ∧ Hid (Sl intCell 1 W W.heap.size MA RM) ∧ Hid (Sl intCell 1 W W.heap.size A ch))
    ⟨bl2 hw10 hx11, g1.below hx11 g1.lt, (Blk.new W10 _ _).below hb11 (by simp), (HL10.out.below hx11).more hx11.size, (HQ.out.below hx11).more hx11.size, (HM.out.below hx11).more hx11.size, (HAA.out.below (bl2 hw10 hx11)).more (bl2 hw10 hx11).size⟩ ?_
  obtain ⟨bk, hbk⟩ : ∃ x, W10.heap.size = x := ⟨_, rfl⟩
  rw [hbk]
  clear hx11 hb11 HL10 HQ HM hw10 g1 s0 s1 s2 s3 s4 ha10
  rintro W ⟨hw, g1, g3, SL, SQ, SM, SA⟩
  have s0 := g1.cell 0; have s1 := g1.cell 1; have s2 := g1.cell 2; have s3 := g1.cell 3; have s4 := g1.cell 4
  simp at s0 s1 s2 s3 s4
  have k0 := g3.cell 0; have k1 := g3.cell 1; have k2 := g3.cell 2
  simp at k0 k1 k2
  have h1 := HE0.out; rw [hv] at h1; change (0 : Int) = E0 at h1; subst h1
  have hsm := small_of_sch hv
  have V := valid_of HR.out.oks hv
  have V3 := v3_of HR.out.oks hv
  have HV := Lib.hid V; have HV3 := Lib.hid V3
  clear V V3 HE0
  refine gen_w (fun W => Below w.heap.size w W ∧ Blk W w.heap.size #[.int .i64 s.places, .int .i64 s.signs, .int .i64 s.kinds, .int .i64 s.answers, s.rv] 24 ∧ Blk W bk #[.int .i64 rk, .slice QA RQ.length qc, .slice MA RM.length mc] 73 ∧ Hid (Sl intCell 1 W W.heap.size LA L) ∧ Hid (Sl intCell 1 W W.heap.size QA RQ) ∧ Hid (Sl intCell 1 W W.heap.size MA RM) ∧ Hid (Sl intCell 1 W W.heap.size A ch)) ⟨hw, g1, g3, SL, SQ, SM, SA⟩ ?_
  clear hw g1 g3 SL SQ SM SA s0 s1 s2 s3 s4 k0 k1 k2
  rintro W ⟨hw, g1, g3, SL, SQ, SM, SA⟩
  have s0 := g1.cell 0; have s1 := g1.cell 1; have s2 := g1.cell 2; have s3 := g1.cell 3; have s4 := g1.cell 4
  simp at s0 s1 s2 s3 s4
  have h2 := HLE.out; simp only [chartR, hv, hb] at h2; cases h2
  obtain ⟨n0, n1⟩ := inB_iff.1 hb
  have q1 : decide (n < 0) = false := by simp; omega
  have q2 : decide (chartsN s.signs s.places.toNat ≤ n) = false := by simp; omega
  have hcm : n ≤ 4096 := by have := HV.out.charts; omega
  clear HLE hb
  go_wp2_with (first | (go_at_call 19; refine (rschool_any s _ ((HR.out.below hw).more hw.size)).mono ?_; rw [hv]; rintro _ Wx ⟨rfl, hbx⟩; have hwx := bl2 hw hbx; have g1 := g1.below hbx g1.lt; have s0 := g1.cell 0; have s1 := g1.cell 1; have s2 := g1.cell 2; have s3 := g1.cell 3; have s4 := g1.cell 4; simp at s0 s1 s2 s3 s4) | (go_at_call 40; refine (rcharts_any s s.rv hsm _).mono ?_; rintro _ Wy ⟨rfl, hby⟩; have hwy := bl2 hwx hby; have g1 := g1.below hby g1.lt; have s0 := g1.cell 0; have s1 := g1.cell 1; have s2 := g1.cell 2; have s3 := g1.cell 3; have s4 := g1.cell 4; simp at s0 s1 s2 s3 s4) |
    (go_at_call 41; refine (rchart_any s s.rv n hsm n0 hcm _).mono ?_; rintro _ Wz ⟨v, rfl, hown, hbz⟩; refine Hid.out ?_))
  have hxz : Below W.heap.size W Wz := bl2 (bl2 hbx hby) hbz
  have hwz := bl2 hw hxz
  have g1 := g1.below hbz g1.lt
  have s0 := g1.cell 0; have s1 := g1.cell 1; have s2 := g1.cell 2; have s3 := g1.cell 3; have s4 := g1.cell 4
  simp at s0 s1 s2 s3 s4
  obtain ⟨LA2, lc2, rfl, hL2⟩ := Sl.of_own hown
  have SL2 := Lib.hid hL2
  clear hown hL2
  have hll : (chartL s n).length ≤ 1000000 := by
    have h1 := hsm.2.1; have h2 := digits_len s.signs s.places.toNat n; simp only [chartL]; omega
  refine Lib.hid ?_
  go_wp2_with (first | (go_at_call 22; refine (lsame_any LA LA2 lc lc2 (chartL s n) (chartL s n) _ hll ((SL.out.below hxz).more hxz.size) SL2.out).mono ?_; rintro _ Wu ⟨e1, hbu⟩; rw [beq_self_eq_true] at e1; subst e1; have hwu := bl2 hwz hbu; have g1 := g1.below hbu g1.lt; have s0 := g1.cell 0; have s1 := g1.cell 1; have s2 := g1.cell 2; have s3 := g1.cell 3; have s4 := g1.cell 4; simp at s0 s1 s2 s3 s4) |
    (go_at_call 42; refine (ris_any s s.rv A c ch _ hsm (by omega) ((HAA.out.below hwu).more hwu.size)).mono ?_; rintro _ Wr ⟨rfl, hbr⟩; refine Hid.out ?_))
  have hxr : Below W.heap.size W Wr := bl2 (bl2 hxz hbu) hbr
  refine Lib.hid ?_
  refine gen_w (fun W => Below w.heap.size w W ∧ Blk W w.heap.size #[.int .i64 s.places, .int .i64 s.signs, .int .i64 s.kinds, .int .i64 s.answers, s.rv] 24 ∧ Blk W bk #[.int .i64 rk, .slice QA RQ.length qc, .slice MA RM.length mc] 73 ∧ Hid (Sl intCell 1 W W.heap.size QA RQ) ∧ Hid (Sl intCell 1 W W.heap.size MA RM)) ⟨bl2 hw hxr, g1.below hbr g1.lt, g3.below hxr g3.lt, (SQ.out.below hxr).more hxr.size, (SM.out.below hxr).more hxr.size⟩ ?_
  clear hw g1 g3 SL SQ SM SA s0 s1 s2 s3 s4 hxr hbr
  rintro Wq ⟨hw, g1, g3, SQ, SM⟩
  have s0 := g1.cell 0; have s1 := g1.cell 1; have s2 := g1.cell 2; have s3 := g1.cell 3; have s4 := g1.cell 4
  simp at s0 s1 s2 s3 s4
  have k0 := g3.cell 0; have k1 := g3.cell 1; have k2 := g3.cell 2
  simp at k0 k1 k2
  cases hcb : chartB s ch with
  | false =>
    have h3 := HNE.out; simp only [numberR, hv, hcb] at h3; cases h3
    have h4 := HRE.out; simp only [readR, hv, hcb] at h4; cases h4
    clear HNE HRE
    go_wp2_with (go_at_call 15; refine (known_any _).mono ?_; rintro _ Wk ⟨rfl, hbk'⟩)
    go_ret
    exact ⟨rfl, bl2 hw hbk'⟩
  | true =>
    have hN1 : numN s.signs ch = nm ∧ ne = 0 := by have h3 := HNE.out; simp only [numberR, hv, hcb] at h3; cases h3; exact ⟨rfl, rfl⟩
    obtain ⟨hN1, rfl⟩ := hN1
    have HNN := Lib.hid hN1
    have hch := chart_facts hsm hcb
    have HCH := Lib.hid hch
    clear HNE hN1 hch
    by_cases hkb : inB kind 0 (s.kinds - 1) = true
    · obtain ⟨m0, m1⟩ := inB_iff.1 hkb
      have hP := read_readP hv hcb hkb HRE.out
      obtain ⟨hP, rfl⟩ := hP
      have HP := Lib.hid hP
      have q3 : decide (kind < 0) = false := by simp; omega
      have q4 : decide (s.kinds ≤ kind) = false := by simp; omega
      clear HRE hkb hP
      go_wp2_with (first | (go_at_call 43; refine (rnumber_any s s.rv A c ch _ hsm hcb ((HAA.out.below hw).more hw.size)).mono ?_; rw [HNN.out]; rintro _ Wn ⟨rfl, hbn⟩; have hwn := bl2 hw hbn; have g1 := g1.below hbn g1.lt; have g3 := g3.below hbn g3.lt; have s0 := g1.cell 0; have s1 := g1.cell 1; have s2 := g1.cell 2; have s3 := g1.cell 3; have s4 := g1.cell 4; simp at s0 s1 s2 s3 s4; have k0 := g3.cell 0; have k1 := g3.cell 1; have k2 := g3.cell 2; simp at k0 k1 k2) |
        (go_at_call 44; refine (rread_any s HV.out HV3.out ch kind A c ch.length _ ((HR.out.below hwn).more hwn.size) m0 (by omega) HCH.out.1 rfl HCH.out.2 ((HAA.out.below hwn).more hwn.size)).mono ?_; rw [HP.out]; rintro _ Wd ⟨YA, yc, ZA, zc, rfl, hY, hZ, hbd⟩; refine Hid.out ?_))
      have hxd : Below Wq.heap.size Wq Wd := bl2 hbn hbd
      have hwd := bl2 hw hxd
      have SQ := Lib.hid ((SQ.out.below hxd).more hxd.size)
      have SM := Lib.hid ((SM.out.below hxd).more hxd.size)
      have SY := Lib.hid hY; have SZ := Lib.hid hZ
      have g3 := g3.below hbd g3.lt
      have hlt := g3.lt
      have gy := Blk.new Wd #[.int .i64 rk, .slice YA RQ.length yc, .slice ZA RM.length zc] 73
      have ga := g3.alloc (.cells #[.int .i64 rk, .slice YA RQ.length yc, .slice ZA RM.length zc] 73)
      have hl1 : RQ.length ≤ 1000000 := SQ_len HP.out
      have hl2 : RM.length ≤ 1000000 := SM_len HP.out
      have k0 := g3.cell 0; have k1 := g3.cell 1; have k2 := g3.cell 2
      simp at k0 k1 k2
      clear hY hZ s0 s1 s2 s3 s4 g1
      refine Lib.hid ?_
      go_wp2_with (go_at_call 22; refine (lsame_any QA YA qc yc RQ RQ _ hl1 (sl_al SQ.out (Below.refl _ _)) (sl_al SY.out (Below.refl _ _))).mono ?_; rintro _ We ⟨e1, hbe⟩; rw [beq_self_eq_true] at e1; subst e1; refine Hid.out ?_)
      have hwe : Below w.heap.size w We := bl3 hwd hbe
      have hxe : Below Wd.heap.size Wd We := bl3 (Below.refl _ _) hbe
      have gy := gy.below hbe gy.lt
      have ga := ga.below hbe ga.lt
      have y0 := gy.cell 0; have y1 := gy.cell 1; have y2 := gy.cell 2
      have k0 := ga.cell 0; have k1 := ga.cell 1; have k2 := ga.cell 2
      simp at y0 y1 y2 k0 k1 k2
      refine Lib.hid ?_
      go_wp2_with (first | (go_at_call 22; refine (lsame_any MA ZA mc zc RM RM _ hl2 ((SM.out.below hxe).more hxe.size) ((SZ.out.below hxe).more hxe.size)).mono ?_; rintro _ Wf ⟨e1, hbf⟩; rw [beq_self_eq_true] at e1; subst e1) | (go_at_call 15; refine (known_any _).mono ?_; rintro _ Wk ⟨rfl, hbk'⟩))
      go_ret
      exact ⟨rfl, bl2 (bl2 hwe hbf) hbk'⟩
    · simp only [Bool.not_eq_true] at hkb
      have h4 := HRE.out; simp only [readR, hv, hcb, hkb] at h4; cases h4
      rcases inB_not.1 hkb with m0 | m0
      · have q3 : decide (kind < 0) = true := by simp; omega
        clear HRE hkb
        go_wp2_with (first | (go_at_call 43; refine (rnumber_any s s.rv A c ch _ hsm hcb ((HAA.out.below hw).more hw.size)).mono ?_; rw [HNN.out]; rintro _ Wn ⟨rfl, hbn⟩; have hwn := bl2 hw hbn; have g1 := g1.below hbn g1.lt; have g3 := g3.below hbn g3.lt; have s0 := g1.cell 0; have s1 := g1.cell 1; have s2 := g1.cell 2; have s3 := g1.cell 3; have s4 := g1.cell 4; simp at s0 s1 s2 s3 s4; have k0 := g3.cell 0; have k1 := g3.cell 1; have k2 := g3.cell 2; simp at k0 k1 k2) |
          (go_at_call 15; refine (known_any _).mono ?_; rintro _ Wk ⟨rfl, hbk'⟩))
        go_ret
        exact ⟨rfl, bl2 hwn hbk'⟩
      · have q3 : decide (kind < 0) = false := by have := HV.out.kinds; simp; omega
        have q4 : decide (s.kinds ≤ kind) = true := by simp; omega
        clear HRE hkb
        go_wp2_with (first | (go_at_call 43; refine (rnumber_any s s.rv A c ch _ hsm hcb ((HAA.out.below hw).more hw.size)).mono ?_; rw [HNN.out]; rintro _ Wn ⟨rfl, hbn⟩; have hwn := bl2 hw hbn; have g1 := g1.below hbn g1.lt; have g3 := g3.below hbn g3.lt; have s0 := g1.cell 0; have s1 := g1.cell 1; have s2 := g1.cell 2; have s3 := g1.cell 3; have s4 := g1.cell 4; simp at s0 s1 s2 s3 s4; have k0 := g3.cell 0; have k1 := g3.cell 1; have k2 := g3.cell 2; simp at k0 k1 k2) |
          (go_at_call 15; refine (known_any _).mono ?_; rintro _ Wk ⟨rfl, hbk'⟩))
        go_ret
        exact ⟨rfl, bl2 hwn hbk'⟩
end Go.Proofs.Ytidlmbajpbbilaa

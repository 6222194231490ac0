/- The walk of the law OddsPairs. -/
import Derived.Test.YtmfbiohdmhbkoaaLb
import Derived.Test.YtmfbiohdmhbkoaaRh
import Derived.Test.YtmfbiohdmhbkoaaRi
namespace Go.Proofs.Ytmfbiohdmhbkoaa
open Go.RowKit

theorem two_err {a b : List Int} (h1 : errW a = 0) (h2 : errW b = 0) : (if errW a ≠ 0 then errW a else errW b) = 0 := by rw [if_neg (fun h => h h1), h2]
theorem sumR_len (a b : List Int) : (sumR a b).1.length ≤ 4096 := by
  unfold sumR
  split
  · rename_i h
    obtain ⟨o1, o2, h3, -⟩ := fitsW_zero.1 h
    have l1 := o1.pos_len; have l2 := o2.pos_len
    show (conv a b).length ≤ 4096
    rw [conv_len]; omega
  · simp
theorem joinR_len (a b : List Int) : (joinR a b).1.length ≤ 4096 := by
  unfold joinR
  split
  · rename_i h
    obtain ⟨o1, o2, h3, -⟩ := fitsW_zero.1 h
    rw [mulNN] at h3
    show (pairs a b).length ≤ 4096
    rw [pairs_len]; omega
  · simp
set_option maxRecDepth 100000 in
set_option maxHeartbeats 16000000 in
theorem lwpairs_any (A A2 : Option Addr) (c c2 : Nat) (a b : List Int) (w : World) (hz : A = none → c = 0) (hz2 : A2 = none → c2 = 0) (hr : Sl intCell 1 w w.heap.size A a) (hr2 : Sl intCell 1 w w.heap.size A2 b) :
    Calls Try.prog 11 #[.slice A a.length c, .slice A2 b.length c2] w fun e w' => e = .returned (.bool true) ∧ Below w.heap.size w w' := by
  have hJl := joinR_len a b
  have hSl := sumR_len a b
  obtain ⟨⟨JL, je⟩, hj⟩ : ∃ x, joinR a b = x := ⟨_, rfl⟩
  obtain ⟨⟨SL, se⟩, hs⟩ : ∃ x, sumR a b = x := ⟨_, rfl⟩
  obtain ⟨⟨pn, pd, pe⟩, hp⟩ : ∃ x, apartR a b = x := ⟨_, rfl⟩
  have HJO := Lib.hid hj; have HSU := Lib.hid hs; have HAP := Lib.hid hp
  rw [hj] at hJl
  rw [hs] at hSl
  replace hJl : JL.length ≤ 4096 := hJl
  replace hSl : SL.length ≤ 4096 := hSl
  have HR := Lib.hid hr; have HR2 := Lib.hid hr2
  clear hj hs hp hr hr2
  by_cases hlg : longB a.length = true
  · have HLG := Lib.hid hlg
    clear hlg
    go_enter Try.func11, Try.ntmps11
    go_wp2_with (first | (go_at_call 15; refine (long_any A c a _).mono ?_; rw [HLG.out]; rintro _ _ ⟨rfl, rfl⟩) | (go_at_call 16; refine (known_any _).mono ?_; rintro _ W1 ⟨rfl, hb1⟩))
    go_ret
    exact ⟨rfl, hb1⟩
  · simp only [Bool.not_eq_true] at hlg
    have hle := (longB_le hlg).1
    have HLG := Lib.hid hlg
    have hlen : a.length ≤ 1000000 := by omega
    clear hlg
    by_cases hlg2 : longB b.length = true
    · have HLG2 := Lib.hid hlg2
      clear hlg2
      go_enter Try.func11, Try.ntmps11
      go_wp2_with (first | (go_at_call 15; (first | (with_reducible refine (long_any A c a _).mono ?_) | (with_reducible refine (long_any A2 c2 b _).mono ?_)); (first | rw [HLG.out] | rw [HLG2.out]); rintro _ _ ⟨rfl, rfl⟩) | (go_at_call 16; refine (known_any _).mono ?_; rintro _ W1 ⟨rfl, hb1⟩))
      go_ret
      exact ⟨rfl, hb1⟩
    · simp only [Bool.not_eq_true] at hlg2
      have hle2 := (longB_le hlg2).1
      have HLG2 := Lib.hid hlg2
      have hlen2 : b.length ≤ 1000000 := by omega
      clear hlg2
      by_cases he1 : errW a = 0
      · have HEA := Lib.hid he1
        by_cases he2 : errW b = 0
        · have HEB := Lib.hid he2
          have HOA := Lib.hid (errW_zero.1 he1); have HOB := Lib.hid (errW_zero.1 he2)
          have HSA : Hid (sameR a b = (lowL a == lowL b, 0)) := (by unfold sameR; rw [if_neg (fun h => h (two_err he1 he2))] : sameR a b = _)
          obtain ⟨sm, hsm⟩ : ∃ sm, (lowL a == lowL b) = sm := ⟨_, rfl⟩
          have HLL := Lib.hid hsm
          rw [hsm] at HSA
          clear he1 he2 hsm
          go_enter Try.func11, Try.ntmps11
          go_upto_region 3 with (go_at_call 15; (first | (with_reducible refine (long_any A c a _).mono ?_) | (with_reducible refine (long_any A2 c2 b _).mono ?_)); (first | rw [HLG.out] | rw [HLG2.out]); rintro _ _ ⟨rfl, rfl⟩)
          have hw0 := Below.refl w.heap.size w
          refine Hid.out ?_
          have HRa1 := Lib.hid ((HR.out.below hw0).more hw0.size)
          have HRb1 := Lib.hid ((HR2.out.below hw0).more hw0.size)
          refine Lib.hid ?_
          go_wp2_with (first | (go_at_call 18; have _ := ha1; (with_reducible refine (own_any A2 c2 b _ hlen2 hz2 ((HRb1.out.below ha1).more ha1.size)).mono ?_); rintro _ U1 ⟨E1, f1, rfl, t21, -, hb1⟩) | (go_at_call 18; (with_reducible refine (own_any A c a _ hlen hz HRa1.out).mono ?_); rintro _ T1 ⟨B1, d1, rfl, t11, -, ha1⟩) | (go_at_call 50; refine (same_any B1 E1 d1 f1 a b U1 (by omega) (by omega) ((t11.below hb1).more hb1.size) t21).mono ?_; rw [HSA.out]; rintro _ W1 ⟨rfl, hc1⟩; refine Hid.out ?_))
          have hx1 := bl2 (bl2 ha1 hb1) hc1
          have hw1 := bl2 hw0 hx1
          clear ha1 hb1 hc1 t11 t21 HRa1 HRb1
          have HRa2 := Lib.hid ((HR.out.below hw1).more hw1.size)
          have HRb2 := Lib.hid ((HR2.out.below hw1).more hw1.size)
          refine Lib.hid ?_
          go_wp2_with (first | (go_at_call 18; have _ := ha2; (with_reducible refine (own_any A2 c2 b _ hlen2 hz2 ((HRb2.out.below ha2).more ha2.size)).mono ?_); rintro _ U2 ⟨E2, f2, rfl, t22, -, hb2⟩) | (go_at_call 18; (with_reducible refine (own_any A c a _ hlen hz HRa2.out).mono ?_); rintro _ T2 ⟨B2, d2, rfl, t12, -, ha2⟩) | (go_at_call 51; refine (joinF_any B2 E2 d2 f2 a b U2 (by omega) (by omega) ((t12.below hb2).more hb2.size) t22).mono ?_; rw [HJO.out]; rintro _ W2 ⟨J2, j2, rfl, hs2, -, hc2⟩; refine Hid.out ?_))
          have hx2 := bl2 (bl2 ha2 hb2) hc2
          have hw2 := bl2 hw1 hx2
          clear ha2 hb2 hc2 t12 t22 HRa2 HRb2
          have HJ2 := Lib.hid hs2
          clear hs2
          have HRa3 := Lib.hid ((HR.out.below hw2).more hw2.size)
          have HRb3 := Lib.hid ((HR2.out.below hw2).more hw2.size)
          refine Lib.hid ?_
          go_wp2_with (first | (go_at_call 18; have _ := ha3; (with_reducible refine (own_any A2 c2 b _ hlen2 hz2 ((HRb3.out.below ha3).more ha3.size)).mono ?_); rintro _ U3 ⟨E3, f3, rfl, t23, -, hb3⟩) | (go_at_call 18; (with_reducible refine (own_any A c a _ hlen hz HRa3.out).mono ?_); rintro _ T3 ⟨B3, d3, rfl, t13, -, ha3⟩) | (go_at_call 29; refine (sumF_any B3 E3 d3 f3 a b U3 (by omega) (by omega) ((t13.below hb3).more hb3.size) t23).mono ?_; rw [HSU.out]; rintro _ W3 ⟨J3, j3, rfl, hs3, -, hc3⟩; refine Hid.out ?_))
          have hx3 := bl2 (bl2 ha3 hb3) hc3
          have hw3 := bl2 hw2 hx3
          clear ha3 hb3 hc3 t13 t23 HRa3 HRb3
          have HJ3 := Lib.hid hs3
          clear hs3
          have HRa4 := Lib.hid ((HR.out.below hw3).more hw3.size)
          have HRb4 := Lib.hid ((HR2.out.below hw3).more hw3.size)
          refine Lib.hid ?_
          go_wp2_with (first | (go_at_call 18; have _ := ha4; (with_reducible refine (own_any A2 c2 b _ hlen2 hz2 ((HRb4.out.below ha4).more ha4.size)).mono ?_); rintro _ U4 ⟨E4, f4, rfl, t24, -, hb4⟩) | (go_at_call 18; (with_reducible refine (own_any A c a _ hlen hz HRa4.out).mono ?_); rintro _ T4 ⟨B4, d4, rfl, t14, -, ha4⟩) | (go_at_call 52; refine (apart_any B4 E4 d4 f4 a b U4 (by omega) (by omega) ((t14.below hb4).more hb4.size) t24).mono ?_; rw [HAP.out]; rintro _ W4 ⟨rfl, hc4⟩; refine Hid.out ?_))
          have hx4 := bl2 (bl2 ha4 hb4) hc4
          have hw4 := bl2 hw3 hx4
          clear ha4 hb4 hc4 t14 t24 HRa4 HRb4
          have hv4 := bl2 hx3 hx4
          have HJ := Lib.hid ((HJ2.out.below hv4).more hv4.size)
          have HS := Lib.hid ((HJ3.out.below hx4).more hx4.size)
          have hal := (Below.refl W4.heap.size W4).alloc (Nat.le_refl _) (.cells #[.int .i64 pn, .int .i64 pd] 51)
          have hwa := bl2 hw4 hal
          have HJa := Lib.hid ((HJ.out.below hal).more hal.size)
          have HSa := Lib.hid ((HS.out.below hal).more hal.size)
          have ga := Blk.new W4 #[.int .i64 pn, .int .i64 pd] 51
          have HRa := Lib.hid ((HR.out.below hwa).more hwa.size)
          have HRb := Lib.hid ((HR2.out.below hwa).more hwa.size)
          clear hx1 hx2 hx3 hx4 hv4 HJ2 HJ3 HJ HS hw1 hw2 hw3
          refine Lib.hid ?_
          go_upto_region 12 with (first | (go_at_call 36; (first | (with_reducible refine (rcheck_any A c a _ HRa.out).mono ?_) | (with_reducible refine (rcheck_any A2 c2 b _ HRb.out).mono ?_)); (first | rw [HEA.out] | rw [HEB.out]); rintro _ _ ⟨rfl, rfl⟩) |
            (go_at_call 40; have _ := hv1; (with_reducible refine (rlow_any A2 c2 b _ HOB.out ((HRb.out.below hv1).more hv1.size)).mono ?_); rintro _ V2 ⟨L2, m2, rfl, hm2, -, hv2⟩) |
            (go_at_call 40; (with_reducible refine (rlow_any A c a _ HOA.out HRa.out).mono ?_); rintro _ V1 ⟨L1, m1, rfl, hm1, -, hv1⟩) |
            (go_at_call 20; refine (requal_any L1 L2 m1 m2 (lowL a) (lowL b) V2 (by rw [lowL_len]; omega) ((hm1.below hv2).more hv2.size) hm2).mono ?_; rw [HLL.out]; rintro _ V3 ⟨rfl, hv3⟩))
          have hv := bl2 (bl2 hv1 hv2) hv3
          refine gen_w (fun W => Below w.heap.size w W ∧ Sl intCell 1 W W.heap.size J2 JL ∧ Sl intCell 1 W W.heap.size J3 SL ∧ Blk W W4.heap.size #[.int .i64 pn, .int .i64 pd] 51) ⟨bl2 hwa hv, (HJa.out.below hv).more hv.size, (HSa.out.below hv).more hv.size, ga.below hv ga.lt⟩ ?_
          clear hv1 hv2 hv3 hv hm1 hm2
          rintro Wc ⟨hwc, hj, hs, gc⟩
          have HJ := Lib.hid hj; have HS := Lib.hid hs
          have HRa := Lib.hid ((HR.out.below hwc).more hwc.size)
          have HRb := Lib.hid ((HR2.out.below hwc).more hwc.size)
          clear hj hs ga hwa hal HJa HSa hw4
          go_wp2_with (go_at_call 53; refine (rjoin_any A A2 c c2 a b Wc HRa.out HRb.out).mono ?_; rw [HJO.out]; rintro _ X1 ⟨K1, k1, rfl, hk1, -, hx1⟩; refine Hid.out ?_)
          have HK1 := Lib.hid hk1
          have HRa1 := Lib.hid ((HRa.out.below hx1).more hx1.size)
          have HRb1 := Lib.hid ((HRb.out.below hx1).more hx1.size)
          clear hk1
          refine Lib.hid ?_
          go_wp2_with (go_at_call 54; refine (rsum_any A A2 c c2 a b X1 HRa1.out HRb1.out).mono ?_; rw [HSU.out]; rintro _ X2 ⟨K2, k2, rfl, hk2, -, hx2⟩; refine Hid.out ?_)
          have HK2 := Lib.hid hk2
          have HRa2 := Lib.hid ((HRa1.out.below hx2).more hx2.size)
          have HRb2 := Lib.hid ((HRb1.out.below hx2).more hx2.size)
          clear hk2
          refine Lib.hid ?_
          go_wp2_with (go_at_call 55; refine (rapart_any A A2 c c2 a b X2 HRa2.out HRb2.out).mono ?_; rw [HAP.out]; rintro _ X3 ⟨rfl, hx3⟩; refine Hid.out ?_)
          have hx3' := hx3.alloc hx3.size (.cells #[.int .i64 pn, .int .i64 pd] 51)
          have hx23 := bl2 hx2 hx3'
          have hx13 := bl2 hx1 hx23
          have HJ3 := Lib.hid ((HJ.out.below hx13).more hx13.size)
          have HK13 := Lib.hid ((HK1.out.below hx23).more hx23.size)
          have gk := Blk.new X3 #[.int .i64 pn, .int .i64 pd] 51
          have gc3 := gc.below hx13 gc.lt
          refine Lib.hid ?_
          go_wp2_with (go_at_call 20; refine (requal_any J2 K1 j2 k1 JL JL _ (by omega) HJ3.out HK13.out).mono ?_; rw [beq_self_eq_true]; rintro _ X4 ⟨rfl, hx4⟩; refine Hid.out ?_)
          have hx14 := bl2 hx13 hx4
          have hx34 := bl2 hx3' hx4
          have HS4 := Lib.hid ((HS.out.below hx14).more hx14.size)
          have HK24 := Lib.hid ((HK2.out.below hx34).more hx34.size)
          have gk4 := gk.below hx4 gk.lt
          have gc4 := gc3.below hx4 gc3.lt
          refine Lib.hid ?_
          go_wp2_with (go_at_call 20; refine (requal_any J3 K2 j3 k2 SL SL X4 (by omega) HS4.out HK24.out).mono ?_; rw [beq_self_eq_true]; rintro _ X5 ⟨rfl, hx5⟩; refine Hid.out ?_)
          have gk5 := gk4.below hx5 gk4.lt
          have gc5 := gc4.below hx5 gc4.lt
          have hw5 := bl2 (bl2 hwc hx14) hx5
          have s0 := gk5.cell 0; have s1 := gk5.cell 1; have t0 := gc5.cell 0; have t1 := gc5.cell 1
          simp at s0 s1 t0 t1
          clear gk gk4 gk5 gc gc3 gc4 gc5 hx1 hx2 hx3 hx4 hx5 hx13 hx23 hx14 hx34 hx3'
          refine Lib.hid ?_
          go_wp2_with (go_at_call 16; refine (known_any _).mono ?_; rintro _ X6 ⟨rfl, hx6⟩)
          go_ret
          exact ⟨rfl, bl2 hw5 hx6⟩
        · have HSA : Hid (sameR a b = (false, errW b)) := (by unfold sameR; rw [show (if errW a ≠ 0 then errW a else errW b) = errW b from if_neg (fun h => h he1), if_pos he2] : sameR a b = _)
          have hne : (errW b != 0) = true := by simpa using he2
          have hne2 : (errW b == 0) = false := by simpa using he2
          obtain ⟨ev, hev⟩ : ∃ ev, errW b = ev := ⟨_, rfl⟩
          have HEB := Lib.hid hev
          rw [hev] at HSA hne hne2
          clear he1 he2 hev
          go_enter Try.func11, Try.ntmps11
          go_upto_region 3 with (go_at_call 15; (first | (with_reducible refine (long_any A c a _).mono ?_) | (with_reducible refine (long_any A2 c2 b _).mono ?_)); (first | rw [HLG.out] | rw [HLG2.out]); rintro _ _ ⟨rfl, rfl⟩)
          have hw0 := Below.refl w.heap.size w
          refine Hid.out ?_
          have HRa1 := Lib.hid ((HR.out.below hw0).more hw0.size)
          have HRb1 := Lib.hid ((HR2.out.below hw0).more hw0.size)
          refine Lib.hid ?_
          go_wp2_with (first | (go_at_call 18; have _ := ha1; (with_reducible refine (own_any A2 c2 b _ hlen2 hz2 ((HRb1.out.below ha1).more ha1.size)).mono ?_); rintro _ U1 ⟨E1, f1, rfl, t21, -, hb1⟩) | (go_at_call 18; (with_reducible refine (own_any A c a _ hlen hz HRa1.out).mono ?_); rintro _ T1 ⟨B1, d1, rfl, t11, -, ha1⟩) | (go_at_call 50; refine (same_any B1 E1 d1 f1 a b U1 (by omega) (by omega) ((t11.below hb1).more hb1.size) t21).mono ?_; rw [HSA.out]; rintro _ W1 ⟨rfl, hc1⟩; refine Hid.out ?_))
          have hx1 := bl2 (bl2 ha1 hb1) hc1
          have hw1 := bl2 hw0 hx1
          clear ha1 hb1 hc1 t11 t21 HRa1 HRb1
          have HRa2 := Lib.hid ((HR.out.below hw1).more hw1.size)
          have HRb2 := Lib.hid ((HR2.out.below hw1).more hw1.size)
          refine Lib.hid ?_
          go_wp2_with (first | (go_at_call 18; have _ := ha2; (with_reducible refine (own_any A2 c2 b _ hlen2 hz2 ((HRb2.out.below ha2).more ha2.size)).mono ?_); rintro _ U2 ⟨E2, f2, rfl, t22, -, hb2⟩) | (go_at_call 18; (with_reducible refine (own_any A c a _ hlen hz HRa2.out).mono ?_); rintro _ T2 ⟨B2, d2, rfl, t12, -, ha2⟩) | (go_at_call 51; refine (joinF_any B2 E2 d2 f2 a b U2 (by omega) (by omega) ((t12.below hb2).more hb2.size) t22).mono ?_; rw [HJO.out]; rintro _ W2 ⟨J2, j2, rfl, hs2, -, hc2⟩; refine Hid.out ?_))
          have hx2 := bl2 (bl2 ha2 hb2) hc2
          have hw2 := bl2 hw1 hx2
          clear ha2 hb2 hc2 t12 t22 HRa2 HRb2
          have HJ2 := Lib.hid hs2
          clear hs2
          have HRa3 := Lib.hid ((HR.out.below hw2).more hw2.size)
          have HRb3 := Lib.hid ((HR2.out.below hw2).more hw2.size)
          refine Lib.hid ?_
          go_wp2_with (first | (go_at_call 18; have _ := ha3; (with_reducible refine (own_any A2 c2 b _ hlen2 hz2 ((HRb3.out.below ha3).more ha3.size)).mono ?_); rintro _ U3 ⟨E3, f3, rfl, t23, -, hb3⟩) | (go_at_call 18; (with_reducible refine (own_any A c a _ hlen hz HRa3.out).mono ?_); rintro _ T3 ⟨B3, d3, rfl, t13, -, ha3⟩) | (go_at_call 29; refine (sumF_any B3 E3 d3 f3 a b U3 (by omega) (by omega) ((t13.below hb3).more hb3.size) t23).mono ?_; rw [HSU.out]; rintro _ W3 ⟨J3, j3, rfl, hs3, -, hc3⟩; refine Hid.out ?_))
          have hx3 := bl2 (bl2 ha3 hb3) hc3
          have hw3 := bl2 hw2 hx3
          clear ha3 hb3 hc3 t13 t23 HRa3 HRb3
          have HJ3 := Lib.hid hs3
          clear hs3
          have HRa4 := Lib.hid ((HR.out.below hw3).more hw3.size)
          have HRb4 := Lib.hid ((HR2.out.below hw3).more hw3.size)
          refine Lib.hid ?_
          go_wp2_with (first | (go_at_call 18; have _ := ha4; (with_reducible refine (own_any A2 c2 b _ hlen2 hz2 ((HRb4.out.below ha4).more ha4.size)).mono ?_); rintro _ U4 ⟨E4, f4, rfl, t24, -, hb4⟩) | (go_at_call 18; (with_reducible refine (own_any A c a _ hlen hz HRa4.out).mono ?_); rintro _ T4 ⟨B4, d4, rfl, t14, -, ha4⟩) | (go_at_call 52; refine (apart_any B4 E4 d4 f4 a b U4 (by omega) (by omega) ((t14.below hb4).more hb4.size) t24).mono ?_; rw [HAP.out]; rintro _ W4 ⟨rfl, hc4⟩; refine Hid.out ?_))
          have hx4 := bl2 (bl2 ha4 hb4) hc4
          have hw4 := bl2 hw3 hx4
          clear ha4 hb4 hc4 t14 t24 HRa4 HRb4
          have hv4 := bl2 hx3 hx4
          have HJ := Lib.hid ((HJ2.out.below hv4).more hv4.size)
          have HS := Lib.hid ((HJ3.out.below hx4).more hx4.size)
          have hal := (Below.refl W4.heap.size W4).alloc (Nat.le_refl _) (.cells #[.int .i64 pn, .int .i64 pd] 51)
          have hwa := bl2 hw4 hal
          have HJa := Lib.hid ((HJ.out.below hal).more hal.size)
          have HSa := Lib.hid ((HS.out.below hal).more hal.size)
          have ga := Blk.new W4 #[.int .i64 pn, .int .i64 pd] 51
          have HRa := Lib.hid ((HR.out.below hwa).more hwa.size)
          have HRb := Lib.hid ((HR2.out.below hwa).more hwa.size)
          clear hx1 hx2 hx3 hx4 hv4 HJ2 HJ3 HJ HS hw1 hw2 hw3
          refine Lib.hid ?_
          go_upto_region 12 with (go_at_call 36; (first | (with_reducible refine (rcheck_any A c a _ HRa.out).mono ?_) | (with_reducible refine (rcheck_any A2 c2 b _ HRb.out).mono ?_)); (first | rw [HEA.out] | rw [HEB.out]); rintro _ _ ⟨rfl, rfl⟩)
          refine gen_w (fun W => Below w.heap.size w W ∧ Sl intCell 1 W W.heap.size J2 JL ∧ Sl intCell 1 W W.heap.size J3 SL ∧ Blk W W4.heap.size #[.int .i64 pn, .int .i64 pd] 51) ⟨hwa, HJa.out, HSa.out, ga⟩ ?_
          rintro Wc ⟨hwc, hj, hs, gc⟩
          have HJ := Lib.hid hj; have HS := Lib.hid hs
          have HRa := Lib.hid ((HR.out.below hwc).more hwc.size)
          have HRb := Lib.hid ((HR2.out.below hwc).more hwc.size)
          clear hj hs ga hwa hal HJa HSa hw4
          go_wp2_with (go_at_call 53; refine (rjoin_any A A2 c c2 a b Wc HRa.out HRb.out).mono ?_; rw [HJO.out]; rintro _ X1 ⟨K1, k1, rfl, hk1, -, hx1⟩; refine Hid.out ?_)
          have HK1 := Lib.hid hk1
          have HRa1 := Lib.hid ((HRa.out.below hx1).more hx1.size)
          have HRb1 := Lib.hid ((HRb.out.below hx1).more hx1.size)
          clear hk1
          refine Lib.hid ?_
          go_wp2_with (go_at_call 54; refine (rsum_any A A2 c c2 a b X1 HRa1.out HRb1.out).mono ?_; rw [HSU.out]; rintro _ X2 ⟨K2, k2, rfl, hk2, -, hx2⟩; refine Hid.out ?_)
          have HK2 := Lib.hid hk2
          have HRa2 := Lib.hid ((HRa1.out.below hx2).more hx2.size)
          have HRb2 := Lib.hid ((HRb1.out.below hx2).more hx2.size)
          clear hk2
          refine Lib.hid ?_
          go_wp2_with (go_at_call 55; refine (rapart_any A A2 c c2 a b X2 HRa2.out HRb2.out).mono ?_; rw [HAP.out]; rintro _ X3 ⟨rfl, hx3⟩; refine Hid.out ?_)
          have hx3' := hx3.alloc hx3.size (.cells #[.int .i64 pn, .int .i64 pd] 51)
          have hx23 := bl2 hx2 hx3'
          have hx13 := bl2 hx1 hx23
          have HJ3 := Lib.hid ((HJ.out.below hx13).more hx13.size)
          have HK13 := Lib.hid ((HK1.out.below hx23).more hx23.size)
          have gk := Blk.new X3 #[.int .i64 pn, .int .i64 pd] 51
          have gc3 := gc.below hx13 gc.lt
          refine Lib.hid ?_
          go_wp2_with (go_at_call 20; refine (requal_any J2 K1 j2 k1 JL JL _ (by omega) HJ3.out HK13.out).mono ?_; rw [beq_self_eq_true]; rintro _ X4 ⟨rfl, hx4⟩; refine Hid.out ?_)
          have hx14 := bl2 hx13 hx4
          have hx34 := bl2 hx3' hx4
          have HS4 := Lib.hid ((HS.out.below hx14).more hx14.size)
          have HK24 := Lib.hid ((HK2.out.below hx34).more hx34.size)
          have gk4 := gk.below hx4 gk.lt
          have gc4 := gc3.below hx4 gc3.lt
          refine Lib.hid ?_
          go_wp2_with (go_at_call 20; refine (requal_any J3 K2 j3 k2 SL SL X4 (by omega) HS4.out HK24.out).mono ?_; rw [beq_self_eq_true]; rintro _ X5 ⟨rfl, hx5⟩; refine Hid.out ?_)
          have gk5 := gk4.below hx5 gk4.lt
          have gc5 := gc4.below hx5 gc4.lt
          have hw5 := bl2 (bl2 hwc hx14) hx5
          have s0 := gk5.cell 0; have s1 := gk5.cell 1; have t0 := gc5.cell 0; have t1 := gc5.cell 1
          simp at s0 s1 t0 t1
          clear gk gk4 gk5 gc gc3 gc4 gc5 hx1 hx2 hx3 hx4 hx5 hx13 hx23 hx14 hx34 hx3'
          refine Lib.hid ?_
          go_wp2_with (go_at_call 16; refine (known_any _).mono ?_; rintro _ X6 ⟨rfl, hx6⟩)
          go_ret
          exact ⟨rfl, bl2 hw5 hx6⟩
      · have HSA : Hid (sameR a b = (false, errW a)) := (by unfold sameR; rw [show (if errW a ≠ 0 then errW a else errW b) = errW a from if_pos he1, if_pos he1] : sameR a b = _)
        have hne : (errW a != 0) = true := by simpa using he1
        have hne2 : (errW a == 0) = false := by simpa using he1
        obtain ⟨ev, hev⟩ : ∃ ev, errW a = ev := ⟨_, rfl⟩
        have HEA := Lib.hid hev
        rw [hev] at HSA hne hne2
        clear he1 hev
        go_enter Try.func11, Try.ntmps11
        go_upto_region 3 with (go_at_call 15; (first | (with_reducible refine (long_any A c a _).mono ?_) | (with_reducible refine (long_any A2 c2 b _).mono ?_)); (first | rw [HLG.out] | rw [HLG2.out]); rintro _ _ ⟨rfl, rfl⟩)
        have hw0 := Below.refl w.heap.size w
        refine Hid.out ?_
        have HRa1 := Lib.hid ((HR.out.below hw0).more hw0.size)
        have HRb1 := Lib.hid ((HR2.out.below hw0).more hw0.size)
        refine Lib.hid ?_
        go_wp2_with (first | (go_at_call 18; have _ := ha1; (with_reducible refine (own_any A2 c2 b _ hlen2 hz2 ((HRb1.out.below ha1).more ha1.size)).mono ?_); rintro _ U1 ⟨E1, f1, rfl, t21, -, hb1⟩) | (go_at_call 18; (with_reducible refine (own_any A c a _ hlen hz HRa1.out).mono ?_); rintro _ T1 ⟨B1, d1, rfl, t11, -, ha1⟩) | (go_at_call 50; refine (same_any B1 E1 d1 f1 a b U1 (by omega) (by omega) ((t11.below hb1).more hb1.size) t21).mono ?_; rw [HSA.out]; rintro _ W1 ⟨rfl, hc1⟩; refine Hid.out ?_))
        have hx1 := bl2 (bl2 ha1 hb1) hc1
        have hw1 := bl2 hw0 hx1
        clear ha1 hb1 hc1 t11 t21 HRa1 HRb1
        have HRa2 := Lib.hid ((HR.out.below hw1).more hw1.size)
        have HRb2 := Lib.hid ((HR2.out.below hw1).more hw1.size)
        refine Lib.hid ?_
        go_wp2_with (first | (go_at_call 18; have _ := ha2; (with_reducible refine (own_any A2 c2 b _ hlen2 hz2 ((HRb2.out.below ha2).more ha2.size)).mono ?_); rintro _ U2 ⟨E2, f2, rfl, t22, -, hb2⟩) | (go_at_call 18; (with_reducible refine (own_any A c a _ hlen hz HRa2.out).mono ?_); rintro _ T2 ⟨B2, d2, rfl, t12, -, ha2⟩) | (go_at_call 51; refine (joinF_any B2 E2 d2 f2 a b U2 (by omega) (by omega) ((t12.below hb2).more hb2.size) t22).mono ?_; rw [HJO.out]; rintro _ W2 ⟨J2, j2, rfl, hs2, -, hc2⟩; refine Hid.out ?_))
        have hx2 := bl2 (bl2 ha2 hb2) hc2
        have hw2 := bl2 hw1 hx2
        clear ha2 hb2 hc2 t12 t22 HRa2 HRb2
        have HJ2 := Lib.hid hs2
        clear hs2
        have HRa3 := Lib.hid ((HR.out.below hw2).more hw2.size)
        have HRb3 := Lib.hid ((HR2.out.below hw2).more hw2.size)
        refine Lib.hid ?_
        go_wp2_with (first | (go_at_call 18; have _ := ha3; (with_reducible refine (own_any A2 c2 b _ hlen2 hz2 ((HRb3.out.below ha3).more ha3.size)).mono ?_); rintro _ U3 ⟨E3, f3, rfl, t23, -, hb3⟩) | (go_at_call 18; (with_reducible refine (own_any A c a _ hlen hz HRa3.out).mono ?_); rintro _ T3 ⟨B3, d3, rfl, t13, -, ha3⟩) | (go_at_call 29; refine (sumF_any B3 E3 d3 f3 a b U3 (by omega) (by omega) ((t13.below hb3).more hb3.size) t23).mono ?_; rw [HSU.out]; rintro _ W3 ⟨J3, j3, rfl, hs3, -, hc3⟩; refine Hid.out ?_))
        have hx3 := bl2 (bl2 ha3 hb3) hc3
        have hw3 := bl2 hw2 hx3
        clear ha3 hb3 hc3 t13 t23 HRa3 HRb3
        have HJ3 := Lib.hid hs3
        clear hs3
        have HRa4 := Lib.hid ((HR.out.below hw3).more hw3.size)
        have HRb4 := Lib.hid ((HR2.out.below hw3).more hw3.size)
        refine Lib.hid ?_
        go_wp2_with (first | (go_at_call 18; have _ := ha4; (with_reducible refine (own_any A2 c2 b _ hlen2 hz2 ((HRb4.out.below ha4).more ha4.size)).mono ?_); rintro _ U4 ⟨E4, f4, rfl, t24, -, hb4⟩) | (go_at_call 18; (with_reducible refine (own_any A c a _ hlen hz HRa4.out).mono ?_); rintro _ T4 ⟨B4, d4, rfl, t14, -, ha4⟩) | (go_at_call 52; refine (apart_any B4 E4 d4 f4 a b U4 (by omega) (by omega) ((t14.below hb4).more hb4.size) t24).mono ?_; rw [HAP.out]; rintro _ W4 ⟨rfl, hc4⟩; refine Hid.out ?_))
        have hx4 := bl2 (bl2 ha4 hb4) hc4
        have hw4 := bl2 hw3 hx4
        clear ha4 hb4 hc4 t14 t24 HRa4 HRb4
        have hv4 := bl2 hx3 hx4
        have HJ := Lib.hid ((HJ2.out.below hv4).more hv4.size)
        have HS := Lib.hid ((HJ3.out.below hx4).more hx4.size)
        have hal := (Below.refl W4.heap.size W4).alloc (Nat.le_refl _) (.cells #[.int .i64 pn, .int .i64 pd] 51)
        have hwa := bl2 hw4 hal
        have HJa := Lib.hid ((HJ.out.below hal).more hal.size)
        have HSa := Lib.hid ((HS.out.below hal).more hal.size)
        have ga := Blk.new W4 #[.int .i64 pn, .int .i64 pd] 51
        have HRa := Lib.hid ((HR.out.below hwa).more hwa.size)
        have HRb := Lib.hid ((HR2.out.below hwa).more hwa.size)
        clear hx1 hx2 hx3 hx4 hv4 HJ2 HJ3 HJ HS hw1 hw2 hw3
        refine Lib.hid ?_
        go_upto_region 12 with (go_at_call 36; refine (rcheck_any A c a _ HRa.out).mono ?_; rw [HEA.out]; rintro _ _ ⟨rfl, rfl⟩)
        refine gen_w (fun W => Below w.heap.size w W ∧ Sl intCell 1 W W.heap.size J2 JL ∧ Sl intCell 1 W W.heap.size J3 SL ∧ Blk W W4.heap.size #[.int .i64 pn, .int .i64 pd] 51) ⟨hwa, HJa.out, HSa.out, ga⟩ ?_
        rintro Wc ⟨hwc, hj, hs, gc⟩
        have HJ := Lib.hid hj; have HS := Lib.hid hs
        have HRa := Lib.hid ((HR.out.below hwc).more hwc.size)
        have HRb := Lib.hid ((HR2.out.below hwc).more hwc.size)
        clear hj hs ga hwa hal HJa HSa hw4
        go_wp2_with (go_at_call 53; refine (rjoin_any A A2 c c2 a b Wc HRa.out HRb.out).mono ?_; rw [HJO.out]; rintro _ X1 ⟨K1, k1, rfl, hk1, -, hx1⟩; refine Hid.out ?_)
        have HK1 := Lib.hid hk1
        have HRa1 := Lib.hid ((HRa.out.below hx1).more hx1.size)
        have HRb1 := Lib.hid ((HRb.out.below hx1).more hx1.size)
        clear hk1
        refine Lib.hid ?_
        go_wp2_with (go_at_call 54; refine (rsum_any A A2 c c2 a b X1 HRa1.out HRb1.out).mono ?_; rw [HSU.out]; rintro _ X2 ⟨K2, k2, rfl, hk2, -, hx2⟩; refine Hid.out ?_)
        have HK2 := Lib.hid hk2
        have HRa2 := Lib.hid ((HRa1.out.below hx2).more hx2.size)
        have HRb2 := Lib.hid ((HRb1.out.below hx2).more hx2.size)
        clear hk2
        refine Lib.hid ?_
        go_wp2_with (go_at_call 55; refine (rapart_any A A2 c c2 a b X2 HRa2.out HRb2.out).mono ?_; rw [HAP.out]; rintro _ X3 ⟨rfl, hx3⟩; refine Hid.out ?_)
        have hx3' := hx3.alloc hx3.size (.cells #[.int .i64 pn, .int .i64 pd] 51)
        have hx23 := bl2 hx2 hx3'
        have hx13 := bl2 hx1 hx23
        have HJ3 := Lib.hid ((HJ.out.below hx13).more hx13.size)
        have HK13 := Lib.hid ((HK1.out.below hx23).more hx23.size)
        have gk := Blk.new X3 #[.int .i64 pn, .int .i64 pd] 51
        have gc3 := gc.below hx13 gc.lt
        refine Lib.hid ?_
        go_wp2_with (go_at_call 20; refine (requal_any J2 K1 j2 k1 JL JL _ (by omega) HJ3.out HK13.out).mono ?_; rw [beq_self_eq_true]; rintro _ X4 ⟨rfl, hx4⟩; refine Hid.out ?_)
        have hx14 := bl2 hx13 hx4
        have hx34 := bl2 hx3' hx4
        have HS4 := Lib.hid ((HS.out.below hx14).more hx14.size)
        have HK24 := Lib.hid ((HK2.out.below hx34).more hx34.size)
        have gk4 := gk.below hx4 gk.lt
        have gc4 := gc3.below hx4 gc3.lt
        refine Lib.hid ?_
        go_wp2_with (go_at_call 20; refine (requal_any J3 K2 j3 k2 SL SL X4 (by omega) HS4.out HK24.out).mono ?_; rw [beq_self_eq_true]; rintro _ X5 ⟨rfl, hx5⟩; refine Hid.out ?_)
        have gk5 := gk4.below hx5 gk4.lt
        have gc5 := gc4.below hx5 gc4.lt
        have hw5 := bl2 (bl2 hwc hx14) hx5
        have s0 := gk5.cell 0; have s1 := gk5.cell 1; have t0 := gc5.cell 0; have t1 := gc5.cell 1
        simp at s0 s1 t0 t1
        clear gk gk4 gk5 gc gc3 gc4 gc5 hx1 hx2 hx3 hx4 hx5 hx13 hx23 hx14 hx34 hx3'
        refine Lib.hid ?_
        go_wp2_with (go_at_call 16; refine (known_any _).mono ?_; rintro _ X6 ⟨rfl, hx6⟩)
        go_ret
        exact ⟨rfl, bl2 hw5 hx6⟩
end Go.Proofs.Ytmfbiohdmhbkoaa

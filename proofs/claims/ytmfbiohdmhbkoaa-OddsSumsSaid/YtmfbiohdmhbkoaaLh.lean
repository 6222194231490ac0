/- The walk of the law OddsSums. -/
import Derived.Test.YtmfbiohdmhbkoaaLb
import Derived.Test.YtmfbiohdmhbkoaaLg
import Derived.Test.YtmfbiohdmhbkoaaPw
namespace Go.Proofs.Ytmfbiohdmhbkoaa
open Go.RowKit

set_option maxRecDepth 100000 in
set_option maxHeartbeats 16000000 in
theorem lwsums_any (A A2 : Option Addr) (c c2 : Nat) (a b : List Int) (p q : Int) (w : World) (p0 : 0 ≤ p) (p1 : p < 256) (q0 : 0 ≤ q) (q1 : q < 256) (hz : A = none → c = 0) (hz2 : A2 = none → c2 = 0) (hr : Sl intCell 1 w w.heap.size A a) (hr2 : Sl intCell 1 w w.heap.size A2 b) :
    Calls Try.prog 8 #[.slice A a.length c, .slice A2 b.length c2, .agg #[.int .u8 p, .int .u8 q]] w fun e w' => e = .returned (.bool true) ∧ Below w.heap.size w w' := by
  have HR := Lib.hid hr; have HR2 := Lib.hid hr2
  clear hr hr2
  by_cases c1 : 20 < a.length
  · have d1 : decide ((20 : Int) < (a.length : Int)) = true := by simp; omega
    go_enter Try.func8, Try.ntmps8
    go_wp2_with (go_at_call 16; refine (known_any _).mono ?_; rintro _ W1 ⟨rfl, hb1⟩)
    go_ret
    exact ⟨rfl, bl3 (Below.refl _ _) hb1⟩
  · have d1 : decide ((20 : Int) < (a.length : Int)) = false := by simp; omega
    by_cases c2' : 20 < b.length
    · have d2 : decide ((20 : Int) < (b.length : Int)) = true := by simp; omega
      go_enter Try.func8, Try.ntmps8
      go_wp2_with (go_at_call 16; refine (known_any _).mono ?_; rintro _ W1 ⟨rfl, hb1⟩)
      go_ret
      exact ⟨rfl, bl3 (Below.refl _ _) hb1⟩
    · have d2 : decide ((20 : Int) < (b.length : Int)) = false := by simp; omega
      have hlen : a.length ≤ 1000000 := by omega
      have hlen2 : b.length ≤ 1000000 := by omega
      have hla : a.length ≤ 20 := by omega
      have hlb : b.length ≤ 20 := by omega
      obtain ⟨m, hm⟩ := Int.eq_ofNat_of_zero_le (Int.emod_nonneg p (show (7 : Int) ≠ 0 by omega))
      obtain ⟨n, hn⟩ := Int.eq_ofNat_of_zero_le (Int.emod_nonneg q (show (7 : Int) ≠ 0 by omega))
      have hm7 : m < 7 := by omega
      have hn7 : n < 7 := by omega
      by_cases hs : (sumR a b).2 = 0
      · obtain ⟨e1, e2, okX, hXl⟩ := sumR_two hs
        have HSU := Lib.hid e1; have HSU2 := Lib.hid e2
        have hSB := sameB_self (errW_zero.2 okX)
        have hXn := okX.len
        obtain ⟨X, hX⟩ : ∃ X, X = conv a b := ⟨_, rfl⟩
        rw [← hX] at HSU HSU2 hXl hSB hXn
        have HSB := Lib.hid hSB
        have hd : ((X.length : Int) != (a.length : Int) + (b.length : Int) - 1) = false := by simp [hXl]
        clear e1 e2 okX hX hs hSB hXl
        go_enter Try.func8, Try.ntmps8
        go_upto_region 3 with fail
        refine gen_w (fun W => Below w.heap.size w W ∧ Blk W w.heap.size #[.int .u8 p, .int .u8 q] 44) ⟨by (repeat (first | exact Below.refl _ _ | assumption | (refine Below.alloc ?_ (by first | omega | (simp; omega) | (simp; done)) _) | (refine Below.setCell ?_ (by first | omega | (simp; omega) | (simp; done)) _) | (refine Below.drew ?_) | (refine belowN ?_ _) | (refine Below.trans ?_ (Below.mono ‹Below _ _ _› (by first | omega | (simp; omega) | (simp; done)))))), Blk.new _ _ _⟩ ?_
        rintro w0 ⟨hw0, gB0⟩
        refine Hid.out ?_
        have HRa1 := Lib.hid ((HR.out.below hw0).more hw0.size)
        have HRb1 := Lib.hid ((HR2.out.below hw0).more hw0.size)
        refine Lib.hid ?_
        go_wp2_with (first | (go_at_call 18; have _ := ha1; (with_reducible refine (own_any A2 c2 b _ hlen2 hz2 ((HRb1.out.below ha1).more ha1.size)).mono ?_); rintro _ U1 ⟨E1, f1, rfl, t21, -, hb1⟩) | (go_at_call 18; (with_reducible refine (own_any A c a _ hlen hz HRa1.out).mono ?_); rintro _ T1 ⟨B1, d1, rfl, t11, -, ha1⟩) | (go_at_call 29; refine (sumF_any B1 E1 d1 f1 a b U1 (by omega) (by omega) ((t11.below hb1).more hb1.size) t21).mono ?_; rw [HSU.out]; rintro _ W1 ⟨J1, j1, rfl, hs1, hz1, hc1⟩; refine Hid.out ?_))
        have hx1 := bl2 (bl2 ha1 hb1) hc1
        have hw1 := bl2 hw0 hx1
        clear ha1 hb1 hc1 t11 t21 HRa1 HRb1
        have HJ1 := Lib.hid hs1
        clear hs1
        have HRa2 := Lib.hid ((HR.out.below hw1).more hw1.size)
        have HRb2 := Lib.hid ((HR2.out.below hw1).more hw1.size)
        refine Lib.hid ?_
        go_wp2_with (first | (go_at_call 18; have _ := ha2; (with_reducible refine (own_any A c a _ hlen hz ((HRa2.out.below ha2).more ha2.size)).mono ?_); rintro _ U2 ⟨E2, f2, rfl, t22, -, hb2⟩) | (go_at_call 18; (with_reducible refine (own_any A2 c2 b _ hlen2 hz2 HRb2.out).mono ?_); rintro _ T2 ⟨B2, d2, rfl, t12, -, ha2⟩) | (go_at_call 29; refine (sumF_any B2 E2 d2 f2 b a U2 (by omega) (by omega) ((t12.below hb2).more hb2.size) t22).mono ?_; rw [HSU2.out]; rintro _ W2 ⟨J2, j2, rfl, hs2, hz2', hc2⟩; refine Hid.out ?_))
        have hx2 := bl2 (bl2 ha2 hb2) hc2
        have hw2 := bl2 hw1 hx2
        clear ha2 hb2 hc2 t12 t22 HRa2 HRb2
        have HJ2 := Lib.hid hs2
        have HJ12 := Lib.hid ((HJ1.out.below hx2).more hx2.size)
        have gB2 := gB0.below (bl2 hx1 hx2) gB0.lt
        have HZ1 := Lib.hid hz1; have HZ2 := Lib.hid hz2'
        clear hs2 hx1 hx2 hw1 gB0 HJ1 hz1 hz2'
        refine Lib.hid ?_
        go_upto_region 7 with (go_at_call 30; refine (lsame_any J1 J2 j1 j2 X X W2 (by omega) (by omega) HZ1.out HZ2.out HJ12.out HJ2.out).mono ?_; rw [HSB.out]; rintro _ W3 ⟨rfl, hb3⟩)
        refine gen_w (fun W => Below w.heap.size w W ∧ Blk W w.heap.size #[.int .u8 p, .int .u8 q] 44) ⟨bl2 hw2 hb3, gB2.below hb3 gB2.lt⟩ ?_
        clear hb3 hd HSB hXn
        rintro w3 ⟨hw3, gB3⟩
        clear gB2 hw2 HJ2 HJ12 HZ1 HZ2
        have s0 := gB3.cell 0; have s1 := gB3.cell 1
        simp at s0 s1
        (refine wp_region_ext (by kernel_rfl) (by kernel_rfl) ?_; (repeat (go_big_quiet_step((fail)))); with_reducible refine wpQuiet_nil ?_; intro w9 hw9; have hb9 := ext_below hw9; clear hw9)
        have hw9 := bl2 hw3 hb9
        clear hb9 s0 s1 gB3 hw3
        refine Hid.out ?_
        by_cases hrp : (repR a ((m : Int) + (n : Int))).2 = 0
        · obtain ⟨e1, e2, e3, e4, e5⟩ := rep_parts hrp
          have HR1 := Lib.hid e1; have HR2' := Lib.hid e2; have HR3 := Lib.hid e3; have HR4 := Lib.hid e4; have HR5 := Lib.hid e5
          have hLl := repR_len a ((m : Int) + (n : Int))
          have hPl := repR_len a (m : Int)
          have hQl := repR_len a (n : Int)
          rw [e1] at hLl
          rw [e2] at hPl
          rw [e3] at hQl
          replace hLl : (pwL a (m + n)).length ≤ 4096 := hLl
          replace hPl : (pwL a m).length ≤ 4096 := hPl
          replace hQl : (pwL a n).length ≤ 4096 := hQl
          obtain ⟨L, hL⟩ : ∃ L, L = pwL a (m + n) := ⟨_, rfl⟩
          obtain ⟨P, hP⟩ : ∃ L, L = pwL a m := ⟨_, rfl⟩
          obtain ⟨Q, hQ⟩ : ∃ L, L = pwL a n := ⟨_, rfl⟩
          rw [← hL] at HR1 HR4 hLl
          rw [← hP] at HR2' HR4 hPl
          rw [← hQ] at HR3 HR4 hQl
          clear e1 e2 e3 e4 e5 hrp hL hP hQ
          have HRa4 := Lib.hid ((HR.out.below hw9).more hw9.size)
          refine Lib.hid ?_
          go_wp2_with (first | (go_at_call 18; (with_reducible refine (own_any A c a _ hlen hz HRa4.out).mono ?_); rintro _ T4 ⟨B4, d4, rfl, t14, z14, ha4⟩) | (go_at_call 17; refine (repeat_any B4 d4 a ((m : Int) + (n : Int)) T4 (by omega) z14 t14).mono ?_; rw [HR1.out]; rintro _ W4 ⟨K4, k4, rfl, hs4, -, hc4⟩; refine Hid.out ?_))
          have hx4 := bl2 ha4 hc4
          have hw4 := bl2 hw9 hx4
          clear ha4 hc4 t14 z14 HRa4
          have HK4 := Lib.hid hs4
          have HRa5 := Lib.hid ((HR.out.below hw4).more hw4.size)
          refine Lib.hid ?_
          go_wp2_with (first | (go_at_call 18; (with_reducible refine (own_any A c a _ hlen hz HRa5.out).mono ?_); rintro _ T5 ⟨B5, d5, rfl, t15, z15, ha5⟩) | (go_at_call 17; refine (repeat_any B5 d5 a ((m : Int)) T5 (by omega) z15 t15).mono ?_; rw [HR2'.out]; rintro _ W5 ⟨K5, k5, rfl, hs5, -, hc5⟩; refine Hid.out ?_))
          have hx5 := bl2 ha5 hc5
          have hw5 := bl2 hw4 hx5
          clear ha5 hc5 t15 z15 HRa5
          have HK5 := Lib.hid hs5
          have HRa6 := Lib.hid ((HR.out.below hw5).more hw5.size)
          refine Lib.hid ?_
          go_wp2_with (first | (go_at_call 18; (with_reducible refine (own_any A c a _ hlen hz HRa6.out).mono ?_); rintro _ T6 ⟨B6, d6, rfl, t16, z16, ha6⟩) | (go_at_call 17; refine (repeat_any B6 d6 a ((n : Int)) T6 (by omega) z16 t16).mono ?_; rw [HR3.out]; rintro _ W6 ⟨K6, k6, rfl, hs6, -, hc6⟩; refine Hid.out ?_))
          have hx6 := bl2 ha6 hc6
          have hw6 := bl2 hw5 hx6
          clear ha6 hc6 t16 z16 HRa6
          have HK6 := Lib.hid hs6
          have HK56 := Lib.hid ((HK5.out.below hx6).more hx6.size)
          clear hs4 hs5 hs6
          refine Lib.hid ?_
          go_wp2_with (go_at_call 29; refine (sumF_any K5 K6 k5 k6 P Q W6 (by omega) (by omega) HK56.out HK6.out).mono ?_; rw [HR4.out]; rintro _ W7 ⟨K7, k7, rfl, hs7, -, hc7⟩; refine Hid.out ?_)
          have hw7 := bl2 hw6 hc7
          have HK7 := Lib.hid hs7
          clear hs7
          have HRa8 := Lib.hid ((HR.out.below hw7).more hw7.size)
          refine Lib.hid ?_
          go_wp2_with (first | (go_at_call 18; (with_reducible refine (own_any A c a _ hlen hz HRa8.out).mono ?_); rintro _ T8 ⟨B8, d8, rfl, t18, z18, ha8⟩) | (go_at_call 17; refine (repeat_any B8 d8 a ((1 : Int)) T8 (by omega) z18 t18).mono ?_; rw [HR5.out]; rintro _ W8 ⟨K8, k8, rfl, hs8, -, hc8⟩; refine Hid.out ?_))
          have hx8 := bl2 ha8 hc8
          have hw8 := bl2 hw7 hx8
          clear ha8 hc8 t18 z18 HRa8
          have HK8 := Lib.hid hs8
          have hx48 := bl2 (bl2 (bl2 hx5 hx6) hc7) hx8
          have HL4 := Lib.hid ((HK4.out.below hx48).more hx48.size)
          have HL7 := Lib.hid ((HK7.out.below hx8).more hx8.size)
          have HA8 := Lib.hid ((HR.out.below hw8).more hw8.size)
          clear hs8 hx48 hx5 hx6 hx8 hc7 HK4 HK5 HK6 HK56 HK7 hx4 hw9 hw4 hw5 hw6 hw7 HR1 HR2' HR3 HR4 HR5
          refine Lib.hid ?_
          go_wp2
          go_loopw [18] (fun i wr => ∃ k : Nat, k ≤ L.length ∧ i = .int .i64 k ∧ Below W8.heap.size W8 wr) (fun i _ => L.length - (intOf i).toNat)
          case atStart => exact ⟨0, by omega, rfl, Below.refl _ _⟩
          case round =>
            obtain ⟨k, hk, rfl, hbr⟩ := hrel
            by_cases hlt : k < L.length
            · obtain ⟨xb, xo, rfl, hxb, cx⟩ := (HL7.out.below hbr).int_at hlt
              obtain ⟨yb, yo, rfl, hyb, cy⟩ := (HL4.out.below hbr).int_at hlt
              obtain ⟨x, hx⟩ : ∃ x, x = L[k] := ⟨_, rfl⟩
              rw [← hx] at cx cy
              have hj0 : (0 : Int) ≤ (k : Int) := by omega
              have hj1 : (k : Int) < (L.length : Int) := by omega
              clear hx
              go_wp2
              (refine wp_region_ext (by kernel_rfl) (by kernel_rfl) ?_; (repeat (go_big_quiet_step((fail)))); with_reducible refine wpQuiet_nil ?_; intro w9 hw9; have hb9 := ext_below hw9; clear hw9)
              go_wp2
              go_roundw
              case rel => exact ⟨k + 1, by omega, by go_num, bl2 hbr hb9⟩
              case measure => simp [intOf]; omega
            · obtain rfl : k = L.length := by omega
              go_wp2
              go_loopw [19] (fun i wq => ∃ k : Nat, k ≤ a.length ∧ i = .int .i64 k ∧ Below W8.heap.size W8 wq) (fun i _ => a.length - (intOf i).toNat)
              case atStart => exact ⟨0, by omega, rfl, hbr⟩
              case round =>
                clear hbr
                obtain ⟨k, hk, rfl, hbr⟩ := hrel
                by_cases hlt2 : k < a.length
                · obtain ⟨xb, xo, rfl, hxb, cx⟩ := (HK8.out.below hbr).int_at hlt2
                  obtain ⟨yb, yo, rfl, hyb, cy⟩ := (HA8.out.below hbr).int_at hlt2
                  obtain ⟨x, hx⟩ : ∃ x, x = a[k] := ⟨_, rfl⟩
                  rw [← hx] at cx cy
                  have hj0 : (0 : Int) ≤ (k : Int) := by omega
                  have hj1 : (k : Int) < (a.length : Int) := by omega
                  clear hx
                  go_wp2
                  (refine wp_region_ext (by kernel_rfl) (by kernel_rfl) ?_; (repeat (go_big_quiet_step((fail)))); with_reducible refine wpQuiet_nil ?_; intro w9 hw9; have hb9 := ext_below hw9; clear hw9)
                  go_wp2
                  go_roundw
                  case rel => exact ⟨k + 1, by omega, by go_num, bl2 hbr hb9⟩
                  case measure => simp [intOf]; omega
                · obtain rfl : k = a.length := by omega
                  go_wp2_with (go_at_call 16; refine (known_any _).mono ?_; rintro _ Wk ⟨rfl, hbk⟩)
                  go_ret
                  exact ⟨rfl, bl2 (bl2 hw8 hbr) hbk⟩
        · have e1 := repR_not hrp
          obtain ⟨⟨R, er⟩, hR⟩ : ∃ x, repR a ((m : Int) + (n : Int)) = x := ⟨_, rfl⟩
          rw [hR] at e1 hrp
          replace e1 : R = [] := e1
          replace hrp : er ≠ 0 := hrp
          subst e1
          have hb : (er != 0) = true := by simpa using hrp
          have HR1 := Lib.hid hR
          clear hR hrp
          have HRa4 := Lib.hid ((HR.out.below hw9).more hw9.size)
          refine Lib.hid ?_
          go_wp2_with (first | (go_at_call 18; (with_reducible refine (own_any A c a _ hlen hz HRa4.out).mono ?_); rintro _ T4 ⟨B4, d4, rfl, t14, z14, ha4⟩) | (go_at_call 17; refine (repeat_any B4 d4 a ((m : Int) + (n : Int)) T4 (by omega) z14 t14).mono ?_; rw [HR1.out]; rintro _ W4 ⟨K4, k4, rfl, -, -, hc4⟩; refine Hid.out ?_))
          have hx4 := bl2 ha4 hc4
          have hw4 := bl2 hw9 hx4
          clear ha4 hc4 t14 z14 HRa4
          refine Lib.hid ?_
          go_wp2_with (go_at_call 16; refine (known_any _).mono ?_; rintro _ Wk ⟨rfl, hbk⟩)
          go_ret
          exact ⟨rfl, bl2 hw4 hbk⟩
      · obtain ⟨⟨SL, se⟩, h1⟩ : ∃ x, sumR a b = x := ⟨_, rfl⟩
        obtain ⟨⟨SL2, se2⟩, h2⟩ : ∃ x, sumR b a = x := ⟨_, rfl⟩
        rw [h1] at hs
        replace hs : se ≠ 0 := hs
        have hse : (se == 0) = false := by simpa using hs
        have HSU := Lib.hid h1; have HSU2 := Lib.hid h2
        clear h1 h2 hs
        go_enter Try.func8, Try.ntmps8
        go_upto_region 3 with fail
        refine gen_w (fun W => Below w.heap.size w W ∧ Blk W w.heap.size #[.int .u8 p, .int .u8 q] 44) ⟨by (repeat (first | exact Below.refl _ _ | assumption | (refine Below.alloc ?_ (by first | omega | (simp; omega) | (simp; done)) _) | (refine Below.setCell ?_ (by first | omega | (simp; omega) | (simp; done)) _) | (refine Below.drew ?_) | (refine belowN ?_ _) | (refine Below.trans ?_ (Below.mono ‹Below _ _ _› (by first | omega | (simp; omega) | (simp; done)))))), Blk.new _ _ _⟩ ?_
        rintro w0 ⟨hw0, gB0⟩
        refine Hid.out ?_
        have HRa1 := Lib.hid ((HR.out.below hw0).more hw0.size)
        have HRb1 := Lib.hid ((HR2.out.below hw0).more hw0.size)
        refine Lib.hid ?_
        go_wp2_with (first | (go_at_call 18; have _ := ha1; (with_reducible refine (own_any A2 c2 b _ hlen2 hz2 ((HRb1.out.below ha1).more ha1.size)).mono ?_); rintro _ U1 ⟨E1, f1, rfl, t21, -, hb1⟩) | (go_at_call 18; (with_reducible refine (own_any A c a _ hlen hz HRa1.out).mono ?_); rintro _ T1 ⟨B1, d1, rfl, t11, -, ha1⟩) | (go_at_call 29; refine (sumF_any B1 E1 d1 f1 a b U1 (by omega) (by omega) ((t11.below hb1).more hb1.size) t21).mono ?_; rw [HSU.out]; rintro _ W1 ⟨J1, j1, rfl, hs1, hz1, hc1⟩; refine Hid.out ?_))
        have hx1 := bl2 (bl2 ha1 hb1) hc1
        have hw1 := bl2 hw0 hx1
        clear ha1 hb1 hc1 t11 t21 HRa1 HRb1
        have HJ1 := Lib.hid hs1
        clear hs1
        have HRa2 := Lib.hid ((HR.out.below hw1).more hw1.size)
        have HRb2 := Lib.hid ((HR2.out.below hw1).more hw1.size)
        refine Lib.hid ?_
        go_wp2_with (first | (go_at_call 18; have _ := ha2; (with_reducible refine (own_any A c a _ hlen hz ((HRa2.out.below ha2).more ha2.size)).mono ?_); rintro _ U2 ⟨E2, f2, rfl, t22, -, hb2⟩) | (go_at_call 18; (with_reducible refine (own_any A2 c2 b _ hlen2 hz2 HRb2.out).mono ?_); rintro _ T2 ⟨B2, d2, rfl, t12, -, ha2⟩) | (go_at_call 29; refine (sumF_any B2 E2 d2 f2 b a U2 (by omega) (by omega) ((t12.below hb2).more hb2.size) t22).mono ?_; rw [HSU2.out]; rintro _ W2 ⟨J2, j2, rfl, hs2, hz2', hc2⟩; refine Hid.out ?_))
        have hx2 := bl2 (bl2 ha2 hb2) hc2
        have hw2 := bl2 hw1 hx2
        clear ha2 hb2 hc2 t12 t22 HRa2 HRb2
        have HJ2 := Lib.hid hs2
        have HJ12 := Lib.hid ((HJ1.out.below hx2).more hx2.size)
        have gB2 := gB0.below (bl2 hx1 hx2) gB0.lt
        have HZ1 := Lib.hid hz1; have HZ2 := Lib.hid hz2'
        clear hs2 hx1 hx2 hw1 gB0 HJ1 hz1 hz2'
        refine Lib.hid ?_
        go_upto_region 7 with fail
        refine gen_w (fun W => Below w.heap.size w W ∧ Blk W w.heap.size #[.int .u8 p, .int .u8 q] 44) ⟨hw2, gB2⟩ ?_
        clear hse
        rintro w3 ⟨hw3, gB3⟩
        clear gB2 hw2 HJ2 HJ12 HZ1 HZ2
        have s0 := gB3.cell 0; have s1 := gB3.cell 1
        simp at s0 s1
        (refine wp_region_ext (by kernel_rfl) (by kernel_rfl) ?_; (repeat (go_big_quiet_step((fail)))); with_reducible refine wpQuiet_nil ?_; intro w9 hw9; have hb9 := ext_below hw9; clear hw9)
        have hw9 := bl2 hw3 hb9
        clear hb9 s0 s1 gB3 hw3
        refine Hid.out ?_
        by_cases hrp : (repR a ((m : Int) + (n : Int))).2 = 0
        · obtain ⟨e1, e2, e3, e4, e5⟩ := rep_parts hrp
          have HR1 := Lib.hid e1; have HR2' := Lib.hid e2; have HR3 := Lib.hid e3; have HR4 := Lib.hid e4; have HR5 := Lib.hid e5
          have hLl := repR_len a ((m : Int) + (n : Int))
          have hPl := repR_len a (m : Int)
          have hQl := repR_len a (n : Int)
          rw [e1] at hLl
          rw [e2] at hPl
          rw [e3] at hQl
          replace hLl : (pwL a (m + n)).length ≤ 4096 := hLl
          replace hPl : (pwL a m).length ≤ 4096 := hPl
          replace hQl : (pwL a n).length ≤ 4096 := hQl
          obtain ⟨L, hL⟩ : ∃ L, L = pwL a (m + n) := ⟨_, rfl⟩
          obtain ⟨P, hP⟩ : ∃ L, L = pwL a m := ⟨_, rfl⟩
          obtain ⟨Q, hQ⟩ : ∃ L, L = pwL a n := ⟨_, rfl⟩
          rw [← hL] at HR1 HR4 hLl
          rw [← hP] at HR2' HR4 hPl
          rw [← hQ] at HR3 HR4 hQl
          clear e1 e2 e3 e4 e5 hrp hL hP hQ
          have HRa4 := Lib.hid ((HR.out.below hw9).more hw9.size)
          refine Lib.hid ?_
          go_wp2_with (first | (go_at_call 18; (with_reducible refine (own_any A c a _ hlen hz HRa4.out).mono ?_); rintro _ T4 ⟨B4, d4, rfl, t14, z14, ha4⟩) | (go_at_call 17; refine (repeat_any B4 d4 a ((m : Int) + (n : Int)) T4 (by omega) z14 t14).mono ?_; rw [HR1.out]; rintro _ W4 ⟨K4, k4, rfl, hs4, -, hc4⟩; refine Hid.out ?_))
          have hx4 := bl2 ha4 hc4
          have hw4 := bl2 hw9 hx4
          clear ha4 hc4 t14 z14 HRa4
          have HK4 := Lib.hid hs4
          have HRa5 := Lib.hid ((HR.out.below hw4).more hw4.size)
          refine Lib.hid ?_
          go_wp2_with (first | (go_at_call 18; (with_reducible refine (own_any A c a _ hlen hz HRa5.out).mono ?_); rintro _ T5 ⟨B5, d5, rfl, t15, z15, ha5⟩) | (go_at_call 17; refine (repeat_any B5 d5 a ((m : Int)) T5 (by omega) z15 t15).mono ?_; rw [HR2'.out]; rintro _ W5 ⟨K5, k5, rfl, hs5, -, hc5⟩; refine Hid.out ?_))
          have hx5 := bl2 ha5 hc5
          have hw5 := bl2 hw4 hx5
          clear ha5 hc5 t15 z15 HRa5
          have HK5 := Lib.hid hs5
          have HRa6 := Lib.hid ((HR.out.below hw5).more hw5.size)
          refine Lib.hid ?_
          go_wp2_with (first | (go_at_call 18; (with_reducible refine (own_any A c a _ hlen hz HRa6.out).mono ?_); rintro _ T6 ⟨B6, d6, rfl, t16, z16, ha6⟩) | (go_at_call 17; refine (repeat_any B6 d6 a ((n : Int)) T6 (by omega) z16 t16).mono ?_; rw [HR3.out]; rintro _ W6 ⟨K6, k6, rfl, hs6, -, hc6⟩; refine Hid.out ?_))
          have hx6 := bl2 ha6 hc6
          have hw6 := bl2 hw5 hx6
          clear ha6 hc6 t16 z16 HRa6
          have HK6 := Lib.hid hs6
          have HK56 := Lib.hid ((HK5.out.below hx6).more hx6.size)
          clear hs4 hs5 hs6
          refine Lib.hid ?_
          go_wp2_with (go_at_call 29; refine (sumF_any K5 K6 k5 k6 P Q W6 (by omega) (by omega) HK56.out HK6.out).mono ?_; rw [HR4.out]; rintro _ W7 ⟨K7, k7, rfl, hs7, -, hc7⟩; refine Hid.out ?_)
          have hw7 := bl2 hw6 hc7
          have HK7 := Lib.hid hs7
          clear hs7
          have HRa8 := Lib.hid ((HR.out.below hw7).more hw7.size)
          refine Lib.hid ?_
          go_wp2_with (first | (go_at_call 18; (with_reducible refine (own_any A c a _ hlen hz HRa8.out).mono ?_); rintro _ T8 ⟨B8, d8, rfl, t18, z18, ha8⟩) | (go_at_call 17; refine (repeat_any B8 d8 a ((1 : Int)) T8 (by omega) z18 t18).mono ?_; rw [HR5.out]; rintro _ W8 ⟨K8, k8, rfl, hs8, -, hc8⟩; refine Hid.out ?_))
          have hx8 := bl2 ha8 hc8
          have hw8 := bl2 hw7 hx8
          clear ha8 hc8 t18 z18 HRa8
          have HK8 := Lib.hid hs8
          have hx48 := bl2 (bl2 (bl2 hx5 hx6) hc7) hx8
          have HL4 := Lib.hid ((HK4.out.below hx48).more hx48.size)
          have HL7 := Lib.hid ((HK7.out.below hx8).more hx8.size)
          have HA8 := Lib.hid ((HR.out.below hw8).more hw8.size)
          clear hs8 hx48 hx5 hx6 hx8 hc7 HK4 HK5 HK6 HK56 HK7 hx4 hw9 hw4 hw5 hw6 hw7 HR1 HR2' HR3 HR4 HR5
          refine Lib.hid ?_
          go_wp2
          go_loopw [18] (fun i wr => ∃ k : Nat, k ≤ L.length ∧ i = .int .i64 k ∧ Below W8.heap.size W8 wr) (fun i _ => L.length - (intOf i).toNat)
          case atStart => exact ⟨0, by omega, rfl, Below.refl _ _⟩
          case round =>
            obtain ⟨k, hk, rfl, hbr⟩ := hrel
            by_cases hlt : k < L.length
            · obtain ⟨xb, xo, rfl, hxb, cx⟩ := (HL7.out.below hbr).int_at hlt
              obtain ⟨yb, yo, rfl, hyb, cy⟩ := (HL4.out.below hbr).int_at hlt
              obtain ⟨x, hx⟩ : ∃ x, x = L[k] := ⟨_, rfl⟩
              rw [← hx] at cx cy
              have hj0 : (0 : Int) ≤ (k : Int) := by omega
              have hj1 : (k : Int) < (L.length : Int) := by omega
              clear hx
              go_wp2
              (refine wp_region_ext (by kernel_rfl) (by kernel_rfl) ?_; (repeat (go_big_quiet_step((fail)))); with_reducible refine wpQuiet_nil ?_; intro w9 hw9; have hb9 := ext_below hw9; clear hw9)
              go_wp2
              go_roundw
              case rel => exact ⟨k + 1, by omega, by go_num, bl2 hbr hb9⟩
              case measure => simp [intOf]; omega
            · obtain rfl : k = L.length := by omega
              go_wp2
              go_loopw [19] (fun i wq => ∃ k : Nat, k ≤ a.length ∧ i = .int .i64 k ∧ Below W8.heap.size W8 wq) (fun i _ => a.length - (intOf i).toNat)
              case atStart => exact ⟨0, by omega, rfl, hbr⟩
              case round =>
                clear hbr
                obtain ⟨k, hk, rfl, hbr⟩ := hrel
                by_cases hlt2 : k < a.length
                · obtain ⟨xb, xo, rfl, hxb, cx⟩ := (HK8.out.below hbr).int_at hlt2
                  obtain ⟨yb, yo, rfl, hyb, cy⟩ := (HA8.out.below hbr).int_at hlt2
                  obtain ⟨x, hx⟩ : ∃ x, x = a[k] := ⟨_, rfl⟩
                  rw [← hx] at cx cy
                  have hj0 : (0 : Int) ≤ (k : Int) := by omega
                  have hj1 : (k : Int) < (a.length : Int) := by omega
                  clear hx
                  go_wp2
                  (refine wp_region_ext (by kernel_rfl) (by kernel_rfl) ?_; (repeat (go_big_quiet_step((fail)))); with_reducible refine wpQuiet_nil ?_; intro w9 hw9; have hb9 := ext_below hw9; clear hw9)
                  go_wp2
                  go_roundw
                  case rel => exact ⟨k + 1, by omega, by go_num, bl2 hbr hb9⟩
                  case measure => simp [intOf]; omega
                · obtain rfl : k = a.length := by omega
                  go_wp2_with (go_at_call 16; refine (known_any _).mono ?_; rintro _ Wk ⟨rfl, hbk⟩)
                  go_ret
                  exact ⟨rfl, bl2 (bl2 hw8 hbr) hbk⟩
        · have e1 := repR_not hrp
          obtain ⟨⟨R, er⟩, hR⟩ : ∃ x, repR a ((m : Int) + (n : Int)) = x := ⟨_, rfl⟩
          rw [hR] at e1 hrp
          replace e1 : R = [] := e1
          replace hrp : er ≠ 0 := hrp
          subst e1
          have hb : (er != 0) = true := by simpa using hrp
          have HR1 := Lib.hid hR
          clear hR hrp
          have HRa4 := Lib.hid ((HR.out.below hw9).more hw9.size)
          refine Lib.hid ?_
          go_wp2_with (first | (go_at_call 18; (with_reducible refine (own_any A c a _ hlen hz HRa4.out).mono ?_); rintro _ T4 ⟨B4, d4, rfl, t14, z14, ha4⟩) | (go_at_call 17; refine (repeat_any B4 d4 a ((m : Int) + (n : Int)) T4 (by omega) z14 t14).mono ?_; rw [HR1.out]; rintro _ W4 ⟨K4, k4, rfl, -, -, hc4⟩; refine Hid.out ?_))
          have hx4 := bl2 ha4 hc4
          have hw4 := bl2 hw9 hx4
          clear ha4 hc4 t14 z14 HRa4
          refine Lib.hid ?_
          go_wp2_with (go_at_call 16; refine (known_any _).mono ?_; rintro _ Wk ⟨rfl, hbk⟩)
          go_ret
          exact ⟨rfl, bl2 hw4 hbk⟩
end Go.Proofs.Ytmfbiohdmhbkoaa

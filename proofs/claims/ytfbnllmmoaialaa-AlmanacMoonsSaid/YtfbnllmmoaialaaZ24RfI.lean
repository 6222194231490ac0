/- almanac: the reference's Moon. -/
import Derived.Test.YtfbnllmmoaialaaRfH
import Derived.Deep.DeepCutAuto
import Derived.Test.YtfbnllmmoaialaaB20Fa
namespace Go.Proofs.Ytfbnllmmoaialaa
open Go.RowKit

theorem BI_zero {r : Lun} (ok : LunOk r) : BI r 0 = 0 := by
  obtain ⟨p, d, f, y, m, s, l⟩ := ok
  unfold BI atW
  rw [Int.mul_zero, Int.zero_add, Int.ediv_eq_zero_of_lt (by omega) (by omega)]
theorem FI_zero {r : Lun} (ok : LunOk r) : FI r 0 = 0 := by
  obtain ⟨p, d, f, y, m, s, l⟩ := ok
  unfold FI atW
  rw [Int.mul_zero, Int.zero_add, Int.ediv_eq_zero_of_lt (by omega) (by omega)]
set_option maxRecDepth 100000 in
set_option maxHeartbeats 8000000 in
theorem rmoon_any (d p f m y s l day : Int) (w : World) (hs : lunB ⟨d, p, f, m, y, s, l⟩ = true) (d0 : 0 ≤ day) (d1 : day ≤ 1000000) : Calls Try.prog 50 #[.agg #[.int .i64 d, .int .i64 p, .int .i64 f, .int .i64 m, .int .i64 y, .int .i64 s, .int .i64 l], .int .i64 day] w fun en w' => en = .returned (.agg #[.int .i64 (moonI ⟨d, p, f, m, y, s, l⟩ day).y, .int .i64 (moonI ⟨d, p, f, m, y, s, l⟩ day).m, .int .i64 (moonI ⟨d, p, f, m, y, s, l⟩ day).d, .bool (moonI ⟨d, p, f, m, y, s, l⟩ day).k]) ∧ Below w.heap.size w w' := by
  have ok := lunB_iff.1 hs
  have HOK := Lib.hid ok
  have hl := ok.l
  simp only at hl
  have HZB := Lib.hid (BI_zero ok); have HZF := Lib.hid (FI_zero ok)
  clear hs ok
  go_enter Try.func50, Try.ntmps50
  go_upto_region 1 with fail
  refine gen_w (fun W => Blk W w.heap.size #[.int .i64 d, .int .i64 p, .int .i64 f, .int .i64 m, .int .i64 y, .int .i64 s, .int .i64 l] 26 ∧ Blk W (w.heap.size + 1) #[.int .i64 0, .int .i64 0, .int .i64 0, .bool false] 77 ∧ Below w.heap.size w W) ⟨(Blk.at_ rfl).alloc _, Blk.at_ (by simp), by (repeat (first | exact Below.refl _ _ | assumption | (refine Below.alloc ?_ (by first | omega | (simp; omega) | (simp; done)) _) | (refine Below.setCell ?_ (by first | omega | (simp; omega) | (simp; done)) _) | (refine Below.drew ?_) | (refine belowN ?_ _) | (refine Below.trans ?_ (Below.mono ‹Below _ _ _› (by first | omega | (simp; omega) | (simp; done))))))⟩ ?_
  rintro V0 ⟨g0, g1, hw⟩
  (have c0 := g0.cell 0; have c1 := g0.cell 1; have c2 := g0.cell 2; have c3 := g0.cell 3; have c4 := g0.cell 4; have c5 := g0.cell 5; have c6 := g0.cell 6; simp at c0 c1 c2 c3 c4 c5 c6)
  go_wp2_with fail
  go_loopw [5] (fun v wr => ∃ n : Nat, v = .int .i64 n ∧ Hid (BI ⟨d, p, f, m, y, s, l⟩ n ≤ day) ∧ n ≤ 40000 ∧ Hid (Below w.heap.size w wr) ∧ Blk wr w.heap.size #[.int .i64 d, .int .i64 p, .int .i64 f, .int .i64 m, .int .i64 y, .int .i64 s, .int .i64 l] 26 ∧ Blk wr (w.heap.size + 1) #[.int .i64 0, .int .i64 0, .int .i64 0, .bool false] 77) (fun v _ => (40001 - intOf v).toNat)
  case atStart => exact ⟨0, rfl, (by rw [show ((0 : Nat) : Int) = 0 from rfl, HZB.out]; exact d0 : BI ⟨d, p, f, m, y, s, l⟩ ((0 : Nat) : Int) ≤ day), by omega, hw, g0, g1⟩
  case round =>
    clear hw g0 g1 c0 c1 c2 c3 c4 c5 c6
    obtain ⟨n, rfl, HLE, hn, hbw, g0, g1⟩ := hrel
    have hw := hbw.out
    clear hbw
    (have c0 := g0.cell 0; have c1 := g0.cell 1; have c2 := g0.cell 2; have c3 := g0.cell 3; have c4 := g0.cell 4; have c5 := g0.cell 5; have c6 := g0.cell 6; simp at c0 c1 c2 c3 c4 c5 c6)
    have HB := Lib.hid (fun W => rbegins_any d p f m y s l ((n : Int) + 1) W HOK.out (by omega) (by omega))
    have hge := BI_ge HOK.out (n := (n : Int) + 1) (by omega)
    have v1 : IntKind.i64.wrap ((n : Int) + 1) = (n : Int) + 1 := IntWalk.i64_in _ ⟨by omega, by omega⟩
    obtain ⟨B1, hB1⟩ : ∃ B, B = BI ⟨d, p, f, m, y, s, l⟩ ((n : Int) + 1) := ⟨_, rfl⟩
    rw [← hB1] at HB hge
    have HB1 := Lib.hid hB1
    clear hB1
    by_cases hc : B1 ≤ day
    · have t1 : decide (B1 ≤ day) = true := by simpa using hc
      go_wp2_with (go_at_call 88; (with_reducible refine (HB.out _).mono ?_); rintro _ V1 ⟨rfl, hb1⟩; (have hw := bl2 hw hb1; have g0 := g0.below hb1 g0.lt; have g1 := g1.below hb1 g1.lt; (have c0 := g0.cell 0; have c1 := g0.cell 1; have c2 := g0.cell 2; have c3 := g0.cell 3; have c4 := g0.cell 4; have c5 := g0.cell 5; have c6 := g0.cell 6; simp at c0 c1 c2 c3 c4 c5 c6)))
      go_roundw
      case rel => exact ⟨n + 1, by rw [show ((n + 1 : Nat) : Int) = (n : Int) + 1 by omega], (by rw [show ((n + 1 : Nat) : Int) = (n : Int) + 1 by omega, ← HB1.out]; exact hc : BI ⟨d, p, f, m, y, s, l⟩ ((n + 1 : Nat) : Int) ≤ day), by omega, hw, g0, g1⟩
      case measure => simp only [intOf]; omega
    · have t1 : decide (B1 ≤ day) = false := by simpa using hc
      have HMI : Hid (mI ⟨d, p, f, m, y, s, l⟩ day = n) := (mI_is HOK.out HLE.out (by rw [← HB1.out]; omega) : mI ⟨d, p, f, m, y, s, l⟩ day = n)
      go_upto_region 4 with (go_at_call 88; (with_reducible refine (HB.out _).mono ?_); rintro _ V1 ⟨rfl, hb1⟩; (have hw := bl2 hw hb1; have g0 := g0.below hb1 g0.lt; have g1 := g1.below hb1 g1.lt; (have c0 := g0.cell 0; have c1 := g0.cell 1; have c2 := g0.cell 2; have c3 := g0.cell 3; have c4 := g0.cell 4; have c5 := g0.cell 5; have c6 := g0.cell 6; simp at c0 c1 c2 c3 c4 c5 c6)))
      clear hb1 HB hge t1 HB1 hc v1
      go_loopw [6] (fun v wr => ∃ q : Nat, v = .int .i64 q ∧ Hid (FI ⟨d, p, f, m, y, s, l⟩ q ≤ n) ∧ q ≤ 40000 ∧ Hid (Below w.heap.size w wr) ∧ Blk wr w.heap.size #[.int .i64 d, .int .i64 p, .int .i64 f, .int .i64 m, .int .i64 y, .int .i64 s, .int .i64 l] 26 ∧ Blk wr (w.heap.size + 1) #[.int .i64 0, .int .i64 0, .int .i64 0, .bool false] 77) (fun v _ => (40001 - intOf v).toNat)
      case atStart => exact ⟨0, rfl, (by rw [show ((0 : Nat) : Int) = 0 from rfl, HZF.out]; omega : FI ⟨d, p, f, m, y, s, l⟩ ((0 : Nat) : Int) ≤ n), by omega, hw, g0, g1⟩
      case round =>
        clear hw g0 g1 c0 c1 c2 c3 c4 c5 c6
        obtain ⟨q, rfl, HLF, hq, hbw, g0, g1⟩ := hrel
        have hw := hbw.out
        clear hbw
        (have c0 := g0.cell 0; have c1 := g0.cell 1; have c2 := g0.cell 2; have c3 := g0.cell 3; have c4 := g0.cell 4; have c5 := g0.cell 5; have c6 := g0.cell 6; simp at c0 c1 c2 c3 c4 c5 c6)
        have HF1 := Lib.hid (fun W => rfirst_any d p f m y s l ((q : Int) + 1) W HOK.out (by omega) (by omega))
        have hge := FI_ge HOK.out (n := (q : Int) + 1) (by omega)
        have v1 : IntKind.i64.wrap ((q : Int) + 1) = (q : Int) + 1 := IntWalk.i64_in _ ⟨by omega, by omega⟩
        obtain ⟨FA, hFA⟩ : ∃ B, B = FI ⟨d, p, f, m, y, s, l⟩ ((q : Int) + 1) := ⟨_, rfl⟩
        rw [← hFA] at HF1 hge
        have HFA := Lib.hid hFA
        clear hFA
        by_cases hc : FA ≤ (n : Int)
        · have t1 : decide (FA ≤ (n : Int)) = true := by simpa using hc
          go_wp2_with (go_at_call 87; (with_reducible refine (HF1.out _).mono ?_); rintro _ V1 ⟨rfl, hb1⟩; (have hw := bl2 hw hb1; have g0 := g0.below hb1 g0.lt; have g1 := g1.below hb1 g1.lt; (have c0 := g0.cell 0; have c1 := g0.cell 1; have c2 := g0.cell 2; have c3 := g0.cell 3; have c4 := g0.cell 4; have c5 := g0.cell 5; have c6 := g0.cell 6; simp at c0 c1 c2 c3 c4 c5 c6)))
          go_roundw
          case rel => exact ⟨q + 1, by rw [show ((q + 1 : Nat) : Int) = (q : Int) + 1 by omega], (by rw [show ((q + 1 : Nat) : Int) = (q : Int) + 1 by omega, ← HFA.out]; exact hc : FI ⟨d, p, f, m, y, s, l⟩ ((q + 1 : Nat) : Int) ≤ n), by omega, hw, g0, g1⟩
          case measure => simp only [intOf]; omega
        · have t1 : decide (FA ≤ (n : Int)) = false := by simpa using hc
          have HYI : Hid (yI ⟨d, p, f, m, y, s, l⟩ day = q) := (yI_is HOK.out (by rw [HMI.out]; exact HLF.out) (by rw [HMI.out, ← HFA.out]; omega) : yI ⟨d, p, f, m, y, s, l⟩ day = q)
          have HB0 := Lib.hid (fun W => rbegins_any d p f m y s l (n : Int) W HOK.out (by omega) (by omega))
          have hB0b := (BI_bd HOK.out (n := (n : Int)) (by omega) (by omega)).2
          have HF0 := Lib.hid (fun W => rfirst_any d p f m y s l (q : Int) W HOK.out (by omega) (by omega))
          have hFB := (FI_bd HOK.out (n := (q : Int)) (by omega) (by omega)).2
          have hF := FI_step HOK.out (q : Int)
          have HFN := HLF.out
          obtain ⟨FB, hFBe⟩ : ∃ B, B = FI ⟨d, p, f, m, y, s, l⟩ q := ⟨_, rfl⟩
          obtain ⟨B0, hB0e⟩ : ∃ B, B = BI ⟨d, p, f, m, y, s, l⟩ n := ⟨_, rfl⟩
          have HLG : Hid (longM ⟨d, p, f, m, y, s, l⟩ q = (FA - FB == 13)) := (by rw [HFA.out, hFBe]; rfl : _ = _)
          rw [← hFBe] at HF0 hFB hF HFN
          rw [← hB0e] at HB0 hB0b
          rw [← HFA.out] at hF
          have HFBE := Lib.hid hFBe; have HB0E := Lib.hid hB0e
          have u2 : IntKind.i64.wrap (FA - FB) = FA - FB := IntWalk.i64_in _ ⟨by omega, by omega⟩
          have v2 : IntKind.i64.wrap (day - B0) = day - B0 := IntWalk.i64_in _ ⟨by omega, by omega⟩
          have v3 : IntKind.i64.wrap (day - B0 + 1) = day - B0 + 1 := IntWalk.i64_in _ ⟨by omega, by omega⟩
          clear hFBe hB0e
          go_upto_region 6 with (go_at_call 87; (with_reducible refine (HF1.out _).mono ?_); rintro _ V1 ⟨rfl, hb1⟩; (have hw := bl2 hw hb1; have g0 := g0.below hb1 g0.lt; have g1 := g1.below hb1 g1.lt; (have c0 := g0.cell 0; have c1 := g0.cell 1; have c2 := g0.cell 2; have c3 := g0.cell 3; have c4 := g0.cell 4; have c5 := g0.cell 5; have c6 := g0.cell 6; simp at c0 c1 c2 c3 c4 c5 c6)))
          clear hb1
          go_upto_region 7 with (go_at_call 88; (with_reducible refine (HB0.out _).mono ?_); rintro _ V1 ⟨rfl, hb1⟩; (have hw := bl2 hw hb1; have g0 := g0.below hb1 g0.lt; have g1 := g1.below hb1 g1.lt; (have c0 := g0.cell 0; have c1 := g0.cell 1; have c2 := g0.cell 2; have c3 := g0.cell 3; have c4 := g0.cell 4; have c5 := g0.cell 5; have c6 := g0.cell 6; simp at c0 c1 c2 c3 c4 c5 c6)))
          clear hb1
          obtain ⟨b7, hb7⟩ : ∃ b, b = V1.heap.size := ⟨_, rfl⟩
          rw [← hb7]
          obtain ⟨D, hD⟩ : ∃ D, D = day - B0 + 1 := ⟨_, rfl⟩
          rw [← hD]
          have HD := Lib.hid hD
          refine gen_w (fun W => Blk W w.heap.size #[.int .i64 d, .int .i64 p, .int .i64 f, .int .i64 m, .int .i64 y, .int .i64 s, .int .i64 l] 26 ∧ Blk W (w.heap.size + 1) #[.int .i64 0, .int .i64 0, .int .i64 0, .bool false] 77 ∧ Blk W b7 #[.int .i64 q, .int .i64 0, .int .i64 D, .bool false] 77 ∧ Below w.heap.size w W) ⟨g0.alloc _, g1.alloc _, Blk.at_ hb7, bla hw⟩ ?_
          have hb70 : w.heap.size + 1 < b7 := by have := g1.lt; omega
          clear g0 g1 hw hb7 c0 c1 c2 c3 c4 c5 c6 hD v2 v3
          rintro V2 ⟨g0, g1, g2, hw⟩
          (have c0 := g0.cell 0; have c1 := g0.cell 1; have c2 := g0.cell 2; have c3 := g0.cell 3; have c4 := g0.cell 4; have c5 := g0.cell 5; have c6 := g0.cell 6; simp at c0 c1 c2 c3 c4 c5 c6)
          go_upto_region 8 with (go_at_call 87; (with_reducible refine (HF0.out _).mono ?_); rintro _ V1 ⟨rfl, hb1⟩; have g2 := g2.below hb1 g2.lt; (have hw := bl2 hw hb1; have g0 := g0.below hb1 g0.lt; have g1 := g1.below hb1 g1.lt; (have c0 := g0.cell 0; have c1 := g0.cell 1; have c2 := g0.cell 2; have c3 := g0.cell 3; have c4 := g0.cell 4; have c5 := g0.cell 5; have c6 := g0.cell 6; simp at c0 c1 c2 c3 c4 c5 c6)))
          clear hb1
          go_loopw [8] (fun i wr => ∃ t : Nat, FB + (t : Int) ≤ (n : Int) + 1 ∧ i = .int .i64 (FB + t) ∧ Hid (Below w.heap.size w wr) ∧ Blk wr w.heap.size #[.int .i64 d, .int .i64 p, .int .i64 f, .int .i64 m, .int .i64 y, .int .i64 s, .int .i64 l] 26 ∧ Blk wr (w.heap.size + 1) #[.int .i64 0, .int .i64 0, .int .i64 0, .bool false] 77 ∧ Blk wr b7 #[.int .i64 q, .int .i64 (nameM ⟨d, p, f, m, y, s, l⟩ q t).1, .int .i64 D, .bool (nameM ⟨d, p, f, m, y, s, l⟩ q t).2] 77) (fun i _ => ((n : Int) + 1 - intOf i).toNat)
          case atStart =>
            have hz := nameM_zero HOK.out (q : Int)
            exact ⟨0, by omega, by simp, hw, g0, g1, by rw [show ((0 : Nat) : Int) = 0 from rfl, hz]; exact g2⟩
          case round =>
            clear hw g0 g1 g2 c0 c1 c2 c3 c4 c5 c6
            obtain ⟨t, ht, rfl, hbw, g0, g1, g2⟩ := hrel
            have hw := hbw.out
            clear hbw
            by_cases hlt : FB + (t : Int) ≤ (n : Int)
            · have t2 : decide (FB + (t : Int) ≤ (n : Int)) = true := by simpa using hlt
              have hnb := nameM_bd (r := ⟨d, p, f, m, y, s, l⟩) (y := (q : Int)) (t := (t : Int)) (by omega)
              have HST : Hid (nameM ⟨d, p, f, m, y, s, l⟩ q ((t + 1 : Nat) : Int) = _) := (nameM_step (r := ⟨d, p, f, m, y, s, l⟩) (y := (q : Int)) (t := (t : Int)) (by omega) hl.1 : _ = _)
              obtain ⟨⟨mo, lp⟩, hqq⟩ : ∃ z, z = nameM ⟨d, p, f, m, y, s, l⟩ q t := ⟨_, rfl⟩
              rw [← hqq, HLG.out] at HST
              rw [← hqq] at hnb g2
              simp only at hnb HST g2
              obtain ⟨lp2, hlp2⟩ : ∃ b, b = leapS (FA - FB == 13) l (mo, lp) := ⟨_, rfl⟩
              rw [← hlp2] at HST
              have HLP := Lib.hid hlp2
              have v2 : IntKind.i64.wrap (mo + 1) = mo + 1 := IntWalk.i64_in _ ⟨by omega, by omega⟩
              have v6 : IntKind.i64.wrap (FB + (t : Int) + 1) = FB + (t : Int) + 1 := IntWalk.i64_in _ ⟨by omega, by omega⟩
              clear hqq hlp2
              (have c0 := g0.cell 0; have c1 := g0.cell 1; have c2 := g0.cell 2; have c3 := g0.cell 3; have c4 := g0.cell 4; have c5 := g0.cell 5; have c6 := g0.cell 6; simp at c0 c1 c2 c3 c4 c5 c6)
              (have s0 := g2.cell 0; have s1 := g2.cell 1; have s2 := g2.cell 2; have s3 := g2.cell 3; simp at s0 s1 s2 s3; have f0 := g2.free 0; have f1 := g2.free 1; have f2 := g2.free 2; have f3 := g2.free 3)
              go_upto_region 10 with fail
              rename World => V9
              go_cut [61] (fun s61 wx => s61 = .bool lp2 ∧ Below w.heap.size w wx ∧ Blk wx w.heap.size #[.int .i64 d, .int .i64 p, .int .i64 f, .int .i64 m, .int .i64 y, .int .i64 s, .int .i64 l] 26 ∧ Blk wx (w.heap.size + 1) #[.int .i64 0, .int .i64 0, .int .i64 0, .bool false] 77 ∧ Blk wx b7 #[.int .i64 q, .int .i64 mo, .int .i64 D, .bool lp2] 77)
              case first =>
                have hl2 := HLP.out
                unfold leapS at hl2
                simp only at hl2
                cases b1 : (FA - FB == 13) with
                | false =>
                  rw [b1] at hl2; simp at hl2; subst hl2
                  clear HLP HST
                  refine wp_region_tail 22 (by kernel_rfl) (by kernel_rfl) ?_
                  simp only [List.take_succ_cons, List.take_zero, List.drop_succ_cons, List.drop_zero]
                  (repeat (go_big_quiet_step (first | (go_at_call 87; with_reducible exact Calls.ext_of (HF0.out _)) | (go_at_call 87; with_reducible exact Calls.ext_of (HF1.out _)))))
                  with_reducible refine wpQuiet_nil ?_
                  intro w3 hw3
                  have hb3 := ext_below hw3
                  clear hw3
                  have hw := bl2 hw hb3
                  have g0 := g0.below hb3 g0.lt
                  have g1 := g1.below hb3 g1.lt
                  have g2 := g2.below hb3 g2.lt
                  (have s0 := g2.cell 0; have s1 := g2.cell 1; have s2 := g2.cell 2; have s3 := g2.cell 3; simp at s0 s1 s2 s3; have f0 := g2.free 0; have f1 := g2.free 1; have f2 := g2.free 2; have f3 := g2.free 3)
                  go_wp2_with fail
                  go_meet
                  refine ⟨rfl, hw.setCell (p := ⟨b7, 3, none⟩) (by show w.heap.size ≤ b7; omega) _, g0.far ⟨b7, 3, none⟩ (by show w.heap.size ≠ b7; omega) _, g1.far ⟨b7, 3, none⟩ (by show w.heap.size + 1 ≠ b7; omega) _, ?_⟩
                  have h3 := g2.set 3 (.bool false)
                  simpa using h3
                | true =>
                  cases b2 : (mo == l) with
                  | false =>
                    rw [b1, b2] at hl2; simp at hl2; subst hl2
                    clear HLP HST
                    refine wp_region_tail 22 (by kernel_rfl) (by kernel_rfl) ?_
                    simp only [List.take_succ_cons, List.take_zero, List.drop_succ_cons, List.drop_zero]
                    (repeat (go_big_quiet_step (first | (go_at_call 87; with_reducible exact Calls.ext_of (HF0.out _)) | (go_at_call 87; with_reducible exact Calls.ext_of (HF1.out _)))))
                    with_reducible refine wpQuiet_nil ?_
                    intro w3 hw3
                    have hb3 := ext_below hw3
                    clear hw3
                    have hw := bl2 hw hb3
                    have g0 := g0.below hb3 g0.lt
                    have g1 := g1.below hb3 g1.lt
                    have g2 := g2.below hb3 g2.lt
                    (have s0 := g2.cell 0; have s1 := g2.cell 1; have s2 := g2.cell 2; have s3 := g2.cell 3; simp at s0 s1 s2 s3; have f0 := g2.free 0; have f1 := g2.free 1; have f2 := g2.free 2; have f3 := g2.free 3)
                    go_wp2_with fail
                    go_meet
                    refine ⟨rfl, hw.setCell (p := ⟨b7, 3, none⟩) (by show w.heap.size ≤ b7; omega) _, g0.far ⟨b7, 3, none⟩ (by show w.heap.size ≠ b7; omega) _, g1.far ⟨b7, 3, none⟩ (by show w.heap.size + 1 ≠ b7; omega) _, ?_⟩
                    have h3 := g2.set 3 (.bool false)
                    simpa using h3
                  | true =>
                    cases lp with
                    | true =>
                      rw [b1, b2] at hl2; simp at hl2; subst hl2
                      clear HLP HST
                      refine wp_region_tail 22 (by kernel_rfl) (by kernel_rfl) ?_
                      simp only [List.take_succ_cons, List.take_zero, List.drop_succ_cons, List.drop_zero]
                      (repeat (go_big_quiet_step (first | (go_at_call 87; with_reducible exact Calls.ext_of (HF0.out _)) | (go_at_call 87; with_reducible exact Calls.ext_of (HF1.out _)))))
                      with_reducible refine wpQuiet_nil ?_
                      intro w3 hw3
                      have hb3 := ext_below hw3
                      clear hw3
                      have hw := bl2 hw hb3
                      have g0 := g0.below hb3 g0.lt
                      have g1 := g1.below hb3 g1.lt
                      have g2 := g2.below hb3 g2.lt
                      (have s0 := g2.cell 0; have s1 := g2.cell 1; have s2 := g2.cell 2; have s3 := g2.cell 3; simp at s0 s1 s2 s3; have f0 := g2.free 0; have f1 := g2.free 1; have f2 := g2.free 2; have f3 := g2.free 3)
                      go_wp2_with fail
                      go_meet
                      refine ⟨rfl, hw.setCell (p := ⟨b7, 3, none⟩) (by show w.heap.size ≤ b7; omega) _, g0.far ⟨b7, 3, none⟩ (by show w.heap.size ≠ b7; omega) _, g1.far ⟨b7, 3, none⟩ (by show w.heap.size + 1 ≠ b7; omega) _, ?_⟩
                      have h3 := g2.set 3 (.bool false)
                      simpa using h3
                    | false =>
                      rw [b1, b2] at hl2; simp at hl2; subst hl2
                      clear HLP HST
                      refine wp_region_tail 22 (by kernel_rfl) (by kernel_rfl) ?_
                      simp only [List.take_succ_cons, List.take_zero, List.drop_succ_cons, List.drop_zero]
                      (repeat (go_big_quiet_step (first | (go_at_call 87; with_reducible exact Calls.ext_of (HF0.out _)) | (go_at_call 87; with_reducible exact Calls.ext_of (HF1.out _)))))
                      with_reducible refine wpQuiet_nil ?_
                      intro w3 hw3
                      have hb3 := ext_below hw3
                      clear hw3
                      have hw := bl2 hw hb3
                      have g0 := g0.below hb3 g0.lt
                      have g1 := g1.below hb3 g1.lt
                      have g2 := g2.below hb3 g2.lt
                      (have s0 := g2.cell 0; have s1 := g2.cell 1; have s2 := g2.cell 2; have s3 := g2.cell 3; simp at s0 s1 s2 s3; have f0 := g2.free 0; have f1 := g2.free 1; have f2 := g2.free 2; have f3 := g2.free 3)
                      go_wp2_with fail
                      go_meet
                      refine ⟨rfl, hw.setCell (p := ⟨b7, 3, none⟩) (by show w.heap.size ≤ b7; omega) _, g0.far ⟨b7, 3, none⟩ (by show w.heap.size ≠ b7; omega) _, g1.far ⟨b7, 3, none⟩ (by show w.heap.size + 1 ≠ b7; omega) _, ?_⟩
                      have h3 := g2.set 3 (.bool true)
                      simpa using h3
              case rest =>
                obtain ⟨rfl, hw2, k0, k1, k2⟩ := hcut
                rename World => V5
                clear hw g0 g1 g2 c0 c1 c2 c3 c4 c5 c6 s0 s1 s2 s3 f0 f1 f2 f3 HLP
                have hw := hw2
                have g0 := k0
                have g1 := k1
                have g2 := k2
                clear hw2 k0 k1 k2
                (have s0 := g2.cell 0; have s1 := g2.cell 1; have s2 := g2.cell 2; have s3 := g2.cell 3; simp at s0 s1 s2 s3; have f0 := g2.free 0; have f1 := g2.free 1; have f2 := g2.free 2; have f3 := g2.free 3)
                cases lp2 with
                | true =>
                  have HN2 : Hid (nameM ⟨d, p, f, m, y, s, l⟩ q ((t + 1 : Nat) : Int) = (mo, true)) := HST
                  clear HST
                  go_wp2_with fail
                  go_roundw
                  case rel => exact ⟨t + 1, by omega, by rw [show FB + ((t + 1 : Nat) : Int) = FB + (t : Int) + 1 by omega], hw, g0, g1, by rw [HN2.out]; exact g2⟩
                  case measure => simp only [intOf]; omega
                | false =>
                  have HN2 : Hid (nameM ⟨d, p, f, m, y, s, l⟩ q ((t + 1 : Nat) : Int) = (mo + 1, false)) := HST
                  clear HST
                  go_wp2_with fail
                  go_roundw
                  case rel =>
                    refine ⟨t + 1, by omega, by rw [show FB + ((t + 1 : Nat) : Int) = FB + (t : Int) + 1 by omega], hw.setCell (p := ⟨b7, 1, none⟩) (by show w.heap.size ≤ b7; omega) _, g0.far ⟨b7, 1, none⟩ (by show w.heap.size ≠ b7; omega) _, g1.far ⟨b7, 1, none⟩ (by show w.heap.size + 1 ≠ b7; omega) _, ?_⟩
                    rw [HN2.out]
                    have h3 := g2.set 1 (.int .i64 (mo + 1))
                    simpa using h3
                  case measure => simp only [intOf]; omega
            · have t2 : decide (FB + (t : Int) ≤ (n : Int)) = false := by simpa using hlt
              have HR : Hid (moonI ⟨d, p, f, m, y, s, l⟩ day = ⟨q, (nameM ⟨d, p, f, m, y, s, l⟩ q t).1, D, (nameM ⟨d, p, f, m, y, s, l⟩ q t).2⟩) := (by
                rw [moonI_eq, HYI.out, HMI.out, ← HFBE.out, ← HB0E.out, HD.out, show (n : Int) - FB + 1 = (t : Int) by omega] : _ = _)
              obtain ⟨⟨mo, lp⟩, hqq⟩ : ∃ z, z = nameM ⟨d, p, f, m, y, s, l⟩ q t := ⟨_, rfl⟩
              rw [← hqq] at HR g2
              simp only at HR g2
              clear hqq
              (have s0 := g2.cell 0; have s1 := g2.cell 1; have s2 := g2.cell 2; have s3 := g2.cell 3; simp at s0 s1 s2 s3; have f0 := g2.free 0; have f1 := g2.free 1; have f2 := g2.free 2; have f3 := g2.free 3)
              have h0 := g1.free 0; have h1 := g1.free 1; have h2 := g1.free 2; have h3 := g1.free 3
              have k0 := g1.cell 0; have k1 := g1.cell 1; have k2 := g1.cell 2; have k3 := g1.cell 3
              simp at k0 k1 k2 k3
              go_wp2_with fail
              have hle2 : w.heap.size ≤ w.heap.size + 1 := by omega
              have g3 := blk4 g1 (.int .i64 q) (.int .i64 mo) (.int .i64 D) (.bool lp)
              have hw3 := (((hw.setCell (p := ⟨w.heap.size + 1, 0, none⟩) hle2 (.int .i64 q)).setCell (p := ⟨w.heap.size + 1, 1, none⟩) hle2 (.int .i64 mo)).setCell (p := ⟨w.heap.size + 1, 2, none⟩) hle2 (.int .i64 D)).setCell (p := ⟨w.heap.size + 1, 3, none⟩) hle2 (.bool lp)
              generalize (((wr.setCell ⟨w.heap.size + 1, 0, none⟩ (.int .i64 q)).setCell ⟨w.heap.size + 1, 1, none⟩ (.int .i64 mo)).setCell ⟨w.heap.size + 1, 2, none⟩ (.int .i64 D)).setCell ⟨w.heap.size + 1, 3, none⟩ (.bool lp) = W3 at g3 hw3 ⊢
              have q0 := g3.cell 0; have q1 := g3.cell 1; have q2 := g3.cell 2; have q3 := g3.cell 3
              simp at q0 q1 q2 q3
              refine bodyPost_ret (v := .agg #[.int .i64 q, .int .i64 mo, .int .i64 D, .bool lp]) (by simp [results, Try.results50, go_sem, q0, q1, q2, q3]) rfl ?_
              rw [HR.out]
              exact ⟨rfl, hw3⟩
end Go.Proofs.Ytfbnllmmoaialaa
namespace Go.Proofs.Ytfbnllmmoaialaa
open Go.RowKit

theorem lunarRV {d p f m y s l day xa xb xc er : Int} {xk : Bool} (h : lunarR ⟨d, p, f, m, y, s, l⟩ day = (⟨xa, xb, xc, xk⟩, er)) (w : World) : Calls Try.prog 46 #[.agg #[.int .i64 d, .int .i64 p, .int .i64 f, .int .i64 m, .int .i64 y, .int .i64 s, .int .i64 l], .int .i64 day] w fun en w' => en = .returned (.tuple #[.agg #[.int .i64 xa, .int .i64 xb, .int .i64 xc, .bool xk], .int .i64 er]) ∧ Below w.heap.size w w' := by
  have h2 := lunarF_any d p f m y s l day w
  rw [h] at h2
  exact h2
theorem ldayPV {d p f m y s l y0 m0 d0 n g : Int} {k0 : Bool} (h : ldayR ⟨d, p, f, m, y, s, l⟩ ⟨y0, m0, d0, k0⟩ = (n, g)) (w : World) : Calls Try.prog 47 #[.agg #[.int .i64 d, .int .i64 p, .int .i64 f, .int .i64 m, .int .i64 y, .int .i64 s, .int .i64 l], .agg #[.int .i64 y0, .int .i64 m0, .int .i64 d0, .bool k0]] w fun en w' => en = .returned (.tuple #[.int .i64 n, .int .i64 g]) ∧ Below w.heap.size w w' := by
  have h2 := lunarDay_any d p f m y s l y0 m0 d0 k0 w
  rw [h] at h2
  exact h2
theorem ldayRV {d p f m y s l y0 m0 d0 n g : Int} {k0 : Bool} (h : ldayR ⟨d, p, f, m, y, s, l⟩ ⟨y0, m0, d0, k0⟩ = (n, g)) (w : World) : Calls Try.prog 48 #[.agg #[.int .i64 d, .int .i64 p, .int .i64 f, .int .i64 m, .int .i64 y, .int .i64 s, .int .i64 l], .agg #[.int .i64 y0, .int .i64 m0, .int .i64 d0, .bool k0]] w fun en w' => en = .returned (.tuple #[.int .i64 n, .int .i64 g]) ∧ Below w.heap.size w w' := by
  have h2 := rlunarday_k d p f m y s l y0 m0 d0 k0 w
  rw [h] at h2
  exact h2
theorem moonRV {d p f m y s l day xa xb xc : Int} {xk : Bool} (hs : lunB ⟨d, p, f, m, y, s, l⟩ = true) (d0 : 0 ≤ day) (d1 : day ≤ 1000000) (h : moonI ⟨d, p, f, m, y, s, l⟩ day = ⟨xa, xb, xc, xk⟩) (w : World) : Calls Try.prog 50 #[.agg #[.int .i64 d, .int .i64 p, .int .i64 f, .int .i64 m, .int .i64 y, .int .i64 s, .int .i64 l], .int .i64 day] w fun en w' => en = .returned (.agg #[.int .i64 xa, .int .i64 xb, .int .i64 xc, .bool xk]) ∧ Below w.heap.size w w' := by
  have h2 := rmoon_any d p f m y s l day w hs d0 d1
  rw [h] at h2
  exact h2
set_option maxRecDepth 100000 in
set_option maxHeartbeats 8000000 in
theorem lwmoons_any (d p f m y s l day y0 m0 d0 : Int) (k0 : Bool) (w : World) :
    Calls Try.prog 8 #[.agg #[.int .i64 d, .int .i64 p, .int .i64 f, .int .i64 m, .int .i64 y, .int .i64 s, .int .i64 l], .int .i64 day, .agg #[.int .i64 y0, .int .i64 m0, .int .i64 d0, .bool k0]] w fun en w' => en = .returned (.bool true) ∧ Below w.heap.size w w' := by
  obtain ⟨⟨n, g⟩, hng⟩ : ∃ z, ldayR ⟨d, p, f, m, y, s, l⟩ ⟨y0, m0, d0, k0⟩ = z := ⟨_, rfl⟩
  have HD1 := Lib.hid (fun W => ldayPV hng W)
  have HD2 := Lib.hid (fun W => ldayRV hng W)
  clear hng
  cases hs : lunB ⟨d, p, f, m, y, s, l⟩ with
  | false =>
    have HP := Lib.hid (fun W => lunarRV (by simp [lunarR, hs] : lunarR ⟨d, p, f, m, y, s, l⟩ day = (⟨0, 0, 0, false⟩, 2)) W)
    have HSV := Lib.hid (fun W => rlunar_val hs W)
    clear hs
    go_enter Try.func8, Try.ntmps8
    go_upto_region 1 with fail
    refine gen_w (fun W => Blk W w.heap.size #[.int .i64 d, .int .i64 p, .int .i64 f, .int .i64 m, .int .i64 y, .int .i64 s, .int .i64 l] 26 ∧ Blk W (w.heap.size + 1) #[.int .i64 y0, .int .i64 m0, .int .i64 d0, .bool k0] 77 ∧ Below w.heap.size w W) ⟨(Blk.at_ rfl).alloc _, Blk.at_ (by simp), by (repeat (first | exact Below.refl _ _ | assumption | (refine Below.alloc ?_ (by first | omega | (simp; omega) | (simp; done)) _) | (refine Below.setCell ?_ (by first | omega | (simp; omega) | (simp; done)) _) | (refine Below.drew ?_) | (refine belowN ?_ _) | (refine Below.trans ?_ (Below.mono ‹Below _ _ _› (by first | omega | (simp; omega) | (simp; done))))))⟩ ?_
    rintro V0 ⟨g0, g1, hw⟩
    (have c0 := g0.cell 0; have c1 := g0.cell 1; have c2 := g0.cell 2; have c3 := g0.cell 3; have c4 := g0.cell 4; have c5 := g0.cell 5; have c6 := g0.cell 6; simp at c0 c1 c2 c3 c4 c5 c6)
    (have s0 := g1.cell 0; have s1 := g1.cell 1; have s2 := g1.cell 2; have s3 := g1.cell 3; simp at s0 s1 s2 s3)
    go_upto_region 2 with (go_at_call 46; (with_reducible refine (HP.out _).mono ?_); rintro _ V1 ⟨rfl, hb1⟩; (have hw := bl2 hw hb1; have g0 := g0.below hb1 g0.lt; have g1 := g1.below hb1 g1.lt; (have c0 := g0.cell 0; have c1 := g0.cell 1; have c2 := g0.cell 2; have c3 := g0.cell 3; have c4 := g0.cell 4; have c5 := g0.cell 5; have c6 := g0.cell 6; simp at c0 c1 c2 c3 c4 c5 c6); (have s0 := g1.cell 0; have s1 := g1.cell 1; have s2 := g1.cell 2; have s3 := g1.cell 3; simp at s0 s1 s2 s3)))
    obtain ⟨b7, hb7⟩ : ∃ b, b = V1.heap.size := ⟨_, rfl⟩
    rw [← hb7]
    refine gen_w (fun W => Blk W w.heap.size #[.int .i64 d, .int .i64 p, .int .i64 f, .int .i64 m, .int .i64 y, .int .i64 s, .int .i64 l] 26 ∧ Blk W (w.heap.size + 1) #[.int .i64 y0, .int .i64 m0, .int .i64 d0, .bool k0] 77 ∧ Blk W b7 #[.int .i64 0, .int .i64 0, .int .i64 0, .bool false] 77 ∧ Below w.heap.size w W) ⟨g0.alloc _, g1.alloc _, Blk.at_ hb7, bla hw⟩ ?_
    clear g0 g1 hw hb7 c0 c1 c2 c3 c4 c5 c6 s0 s1 s2 s3
    rintro V2 ⟨g0, g1, g2, hw⟩
    (have c0 := g0.cell 0; have c1 := g0.cell 1; have c2 := g0.cell 2; have c3 := g0.cell 3; have c4 := g0.cell 4; have c5 := g0.cell 5; have c6 := g0.cell 6; simp at c0 c1 c2 c3 c4 c5 c6)
    (have s0 := g1.cell 0; have s1 := g1.cell 1; have s2 := g1.cell 2; have s3 := g1.cell 3; simp at s0 s1 s2 s3)
    (have k0 := g2.cell 0; have k1 := g2.cell 1; have k2 := g2.cell 2; have k3 := g2.cell 3; simp at k0 k1 k2 k3)
    go_upto_region 4 with (first | (go_at_call 47; (with_reducible refine (HD1.out _).mono ?_); rintro _ V1 ⟨rfl, hb1⟩; (have hw := bl2 hw hb1; have g0 := g0.below hb1 g0.lt; have g1 := g1.below hb1 g1.lt; have g2 := g2.below hb1 g2.lt; (have c0 := g0.cell 0; have c1 := g0.cell 1; have c2 := g0.cell 2; have c3 := g0.cell 3; have c4 := g0.cell 4; have c5 := g0.cell 5; have c6 := g0.cell 6; simp at c0 c1 c2 c3 c4 c5 c6); (have s0 := g1.cell 0; have s1 := g1.cell 1; have s2 := g1.cell 2; have s3 := g1.cell 3; simp at s0 s1 s2 s3); (have k0 := g2.cell 0; have k1 := g2.cell 1; have k2 := g2.cell 2; have k3 := g2.cell 3; simp at k0 k1 k2 k3))) | (go_at_call 48; (with_reducible refine (HD2.out _).mono ?_); rintro _ V1 ⟨rfl, hb1⟩; (have hw := bl2 hw hb1; have g0 := g0.below hb1 g0.lt; have g1 := g1.below hb1 g1.lt; have g2 := g2.below hb1 g2.lt; (have c0 := g0.cell 0; have c1 := g0.cell 1; have c2 := g0.cell 2; have c3 := g0.cell 3; have c4 := g0.cell 4; have c5 := g0.cell 5; have c6 := g0.cell 6; simp at c0 c1 c2 c3 c4 c5 c6); (have s0 := g1.cell 0; have s1 := g1.cell 1; have s2 := g1.cell 2; have s3 := g1.cell 3; simp at s0 s1 s2 s3); (have k0 := g2.cell 0; have k1 := g2.cell 1; have k2 := g2.cell 2; have k3 := g2.cell 3; simp at k0 k1 k2 k3))))
    go_wp2_with (first | (go_at_call 49; (with_reducible refine (HSV.out _).mono ?_); rintro _ V1 ⟨rfl, hb1⟩; (have hw := bl2 hw hb1; have g0 := g0.below hb1 g0.lt; have g1 := g1.below hb1 g1.lt; have g2 := g2.below hb1 g2.lt; (have c0 := g0.cell 0; have c1 := g0.cell 1; have c2 := g0.cell 2; have c3 := g0.cell 3; have c4 := g0.cell 4; have c5 := g0.cell 5; have c6 := g0.cell 6; simp at c0 c1 c2 c3 c4 c5 c6); (have s0 := g1.cell 0; have s1 := g1.cell 1; have s2 := g1.cell 2; have s3 := g1.cell 3; simp at s0 s1 s2 s3); (have k0 := g2.cell 0; have k1 := g2.cell 1; have k2 := g2.cell 2; have k3 := g2.cell 3; simp at k0 k1 k2 k3))) | (go_at_call 17; refine (known_any _).mono ?_; rintro _ V1 ⟨rfl, hb1⟩; have hw := bl2 hw hb1))
    refine bodyPost_ret (v := .bool true) (by simp [results, Try.results8, go_sem]) rfl ?_
    exact ⟨rfl, hw⟩
  | true =>
    have HSV := Lib.hid (fun W => rlunar_val hs W)
    cases hd : inB day 0 1000000 with
    | false =>
      have HP := Lib.hid (fun W => lunarRV (by simp [lunarR, hs, hd] : lunarR ⟨d, p, f, m, y, s, l⟩ day = (⟨0, 0, 0, false⟩, 3)) W)
      have HDV := Lib.hid (fun W => rday_val hd W)
      clear hs hd
      go_enter Try.func8, Try.ntmps8
      go_upto_region 1 with fail
      refine gen_w (fun W => Blk W w.heap.size #[.int .i64 d, .int .i64 p, .int .i64 f, .int .i64 m, .int .i64 y, .int .i64 s, .int .i64 l] 26 ∧ Blk W (w.heap.size + 1) #[.int .i64 y0, .int .i64 m0, .int .i64 d0, .bool k0] 77 ∧ Below w.heap.size w W) ⟨(Blk.at_ rfl).alloc _, Blk.at_ (by simp), by (repeat (first | exact Below.refl _ _ | assumption | (refine Below.alloc ?_ (by first | omega | (simp; omega) | (simp; done)) _) | (refine Below.setCell ?_ (by first | omega | (simp; omega) | (simp; done)) _) | (refine Below.drew ?_) | (refine belowN ?_ _) | (refine Below.trans ?_ (Below.mono ‹Below _ _ _› (by first | omega | (simp; omega) | (simp; done))))))⟩ ?_
      rintro V0 ⟨g0, g1, hw⟩
      (have c0 := g0.cell 0; have c1 := g0.cell 1; have c2 := g0.cell 2; have c3 := g0.cell 3; have c4 := g0.cell 4; have c5 := g0.cell 5; have c6 := g0.cell 6; simp at c0 c1 c2 c3 c4 c5 c6)
      (have s0 := g1.cell 0; have s1 := g1.cell 1; have s2 := g1.cell 2; have s3 := g1.cell 3; simp at s0 s1 s2 s3)
      go_upto_region 2 with (go_at_call 46; (with_reducible refine (HP.out _).mono ?_); rintro _ V1 ⟨rfl, hb1⟩; (have hw := bl2 hw hb1; have g0 := g0.below hb1 g0.lt; have g1 := g1.below hb1 g1.lt; (have c0 := g0.cell 0; have c1 := g0.cell 1; have c2 := g0.cell 2; have c3 := g0.cell 3; have c4 := g0.cell 4; have c5 := g0.cell 5; have c6 := g0.cell 6; simp at c0 c1 c2 c3 c4 c5 c6); (have s0 := g1.cell 0; have s1 := g1.cell 1; have s2 := g1.cell 2; have s3 := g1.cell 3; simp at s0 s1 s2 s3)))
      obtain ⟨b7, hb7⟩ : ∃ b, b = V1.heap.size := ⟨_, rfl⟩
      rw [← hb7]
      refine gen_w (fun W => Blk W w.heap.size #[.int .i64 d, .int .i64 p, .int .i64 f, .int .i64 m, .int .i64 y, .int .i64 s, .int .i64 l] 26 ∧ Blk W (w.heap.size + 1) #[.int .i64 y0, .int .i64 m0, .int .i64 d0, .bool k0] 77 ∧ Blk W b7 #[.int .i64 0, .int .i64 0, .int .i64 0, .bool false] 77 ∧ Below w.heap.size w W) ⟨g0.alloc _, g1.alloc _, Blk.at_ hb7, bla hw⟩ ?_
      clear g0 g1 hw hb7 c0 c1 c2 c3 c4 c5 c6 s0 s1 s2 s3
      rintro V2 ⟨g0, g1, g2, hw⟩
      (have c0 := g0.cell 0; have c1 := g0.cell 1; have c2 := g0.cell 2; have c3 := g0.cell 3; have c4 := g0.cell 4; have c5 := g0.cell 5; have c6 := g0.cell 6; simp at c0 c1 c2 c3 c4 c5 c6)
      (have s0 := g1.cell 0; have s1 := g1.cell 1; have s2 := g1.cell 2; have s3 := g1.cell 3; simp at s0 s1 s2 s3)
      (have k0 := g2.cell 0; have k1 := g2.cell 1; have k2 := g2.cell 2; have k3 := g2.cell 3; simp at k0 k1 k2 k3)
      go_upto_region 4 with (first | (go_at_call 47; (with_reducible refine (HD1.out _).mono ?_); rintro _ V1 ⟨rfl, hb1⟩; (have hw := bl2 hw hb1; have g0 := g0.below hb1 g0.lt; have g1 := g1.below hb1 g1.lt; have g2 := g2.below hb1 g2.lt; (have c0 := g0.cell 0; have c1 := g0.cell 1; have c2 := g0.cell 2; have c3 := g0.cell 3; have c4 := g0.cell 4; have c5 := g0.cell 5; have c6 := g0.cell 6; simp at c0 c1 c2 c3 c4 c5 c6); (have s0 := g1.cell 0; have s1 := g1.cell 1; have s2 := g1.cell 2; have s3 := g1.cell 3; simp at s0 s1 s2 s3); (have k0 := g2.cell 0; have k1 := g2.cell 1; have k2 := g2.cell 2; have k3 := g2.cell 3; simp at k0 k1 k2 k3))) | (go_at_call 48; (with_reducible refine (HD2.out _).mono ?_); rintro _ V1 ⟨rfl, hb1⟩; (have hw := bl2 hw hb1; have g0 := g0.below hb1 g0.lt; have g1 := g1.below hb1 g1.lt; have g2 := g2.below hb1 g2.lt; (have c0 := g0.cell 0; have c1 := g0.cell 1; have c2 := g0.cell 2; have c3 := g0.cell 3; have c4 := g0.cell 4; have c5 := g0.cell 5; have c6 := g0.cell 6; simp at c0 c1 c2 c3 c4 c5 c6); (have s0 := g1.cell 0; have s1 := g1.cell 1; have s2 := g1.cell 2; have s3 := g1.cell 3; simp at s0 s1 s2 s3); (have k0 := g2.cell 0; have k1 := g2.cell 1; have k2 := g2.cell 2; have k3 := g2.cell 3; simp at k0 k1 k2 k3))))
      go_wp2_with (first | (go_at_call 49; (with_reducible refine (HSV.out _).mono ?_); rintro _ V1 ⟨rfl, hb1⟩; (have hw := bl2 hw hb1; have g0 := g0.below hb1 g0.lt; have g1 := g1.below hb1 g1.lt; have g2 := g2.below hb1 g2.lt; (have c0 := g0.cell 0; have c1 := g0.cell 1; have c2 := g0.cell 2; have c3 := g0.cell 3; have c4 := g0.cell 4; have c5 := g0.cell 5; have c6 := g0.cell 6; simp at c0 c1 c2 c3 c4 c5 c6); (have s0 := g1.cell 0; have s1 := g1.cell 1; have s2 := g1.cell 2; have s3 := g1.cell 3; simp at s0 s1 s2 s3); (have k0 := g2.cell 0; have k1 := g2.cell 1; have k2 := g2.cell 2; have k3 := g2.cell 3; simp at k0 k1 k2 k3))) | (go_at_call 28; (with_reducible refine (HDV.out _).mono ?_); rintro _ _ ⟨rfl, rfl⟩) | (go_at_call 17; refine (known_any _).mono ?_; rintro _ V1 ⟨rfl, hb1⟩; have hw := bl2 hw hb1))
      refine bodyPost_ret (v := .bool true) (by simp [results, Try.results8, go_sem]) rfl ?_
      exact ⟨rfl, hw⟩
    | true =>
      obtain ⟨dd0, dd1⟩ := inB_iff.1 hd
      obtain ⟨⟨xa, xb, xc, xk⟩, hx⟩ : ∃ z, moonI ⟨d, p, f, m, y, s, l⟩ day = z := ⟨_, rfl⟩
      have HP := Lib.hid (fun W => lunarRV (by simp [lunarR, hs, hd, hx] : lunarR ⟨d, p, f, m, y, s, l⟩ day = (⟨xa, xb, xc, xk⟩, 0)) W)
      have HDV := Lib.hid (fun W => rday_val hd W)
      have HRV := Lib.hid (fun W => moonRV hs dd0 dd1 hx W)
      have HK := Lib.hid (fun W => known_any W)
      clear hs hd hx
      go_enter Try.func8, Try.ntmps8
      go_upto_region 1 with fail
      refine gen_w (fun W => Blk W w.heap.size #[.int .i64 d, .int .i64 p, .int .i64 f, .int .i64 m, .int .i64 y, .int .i64 s, .int .i64 l] 26 ∧ Blk W (w.heap.size + 1) #[.int .i64 y0, .int .i64 m0, .int .i64 d0, .bool k0] 77 ∧ Below w.heap.size w W) ⟨(Blk.at_ rfl).alloc _, Blk.at_ (by simp), by (repeat (first | exact Below.refl _ _ | assumption | (refine Below.alloc ?_ (by first | omega | (simp; omega) | (simp; done)) _) | (refine Below.setCell ?_ (by first | omega | (simp; omega) | (simp; done)) _) | (refine Below.drew ?_) | (refine belowN ?_ _) | (refine Below.trans ?_ (Below.mono ‹Below _ _ _› (by first | omega | (simp; omega) | (simp; done))))))⟩ ?_
      rintro V0 ⟨g0, g1, hw⟩
      (have c0 := g0.cell 0; have c1 := g0.cell 1; have c2 := g0.cell 2; have c3 := g0.cell 3; have c4 := g0.cell 4; have c5 := g0.cell 5; have c6 := g0.cell 6; simp at c0 c1 c2 c3 c4 c5 c6)
      (have s0 := g1.cell 0; have s1 := g1.cell 1; have s2 := g1.cell 2; have s3 := g1.cell 3; simp at s0 s1 s2 s3)
      go_upto_region 2 with (go_at_call 46; (with_reducible refine (HP.out _).mono ?_); rintro _ V1 ⟨rfl, hb1⟩; (have hw := bl2 hw hb1; have g0 := g0.below hb1 g0.lt; have g1 := g1.below hb1 g1.lt; (have c0 := g0.cell 0; have c1 := g0.cell 1; have c2 := g0.cell 2; have c3 := g0.cell 3; have c4 := g0.cell 4; have c5 := g0.cell 5; have c6 := g0.cell 6; simp at c0 c1 c2 c3 c4 c5 c6); (have s0 := g1.cell 0; have s1 := g1.cell 1; have s2 := g1.cell 2; have s3 := g1.cell 3; simp at s0 s1 s2 s3)))
      obtain ⟨b7, hb7⟩ : ∃ b, b = V1.heap.size := ⟨_, rfl⟩
      rw [← hb7]
      refine gen_w (fun W => Blk W w.heap.size #[.int .i64 d, .int .i64 p, .int .i64 f, .int .i64 m, .int .i64 y, .int .i64 s, .int .i64 l] 26 ∧ Blk W (w.heap.size + 1) #[.int .i64 y0, .int .i64 m0, .int .i64 d0, .bool k0] 77 ∧ Blk W b7 #[.int .i64 xa, .int .i64 xb, .int .i64 xc, .bool xk] 77 ∧ Below w.heap.size w W) ⟨g0.alloc _, g1.alloc _, Blk.at_ hb7, bla hw⟩ ?_
      clear g0 g1 hw hb7 c0 c1 c2 c3 c4 c5 c6 s0 s1 s2 s3
      rintro V2 ⟨g0, g1, g2, hw⟩
      (have c0 := g0.cell 0; have c1 := g0.cell 1; have c2 := g0.cell 2; have c3 := g0.cell 3; have c4 := g0.cell 4; have c5 := g0.cell 5; have c6 := g0.cell 6; simp at c0 c1 c2 c3 c4 c5 c6)
      (have s0 := g1.cell 0; have s1 := g1.cell 1; have s2 := g1.cell 2; have s3 := g1.cell 3; simp at s0 s1 s2 s3)
      (have k0 := g2.cell 0; have k1 := g2.cell 1; have k2 := g2.cell 2; have k3 := g2.cell 3; simp at k0 k1 k2 k3)
      go_upto_region 4 with (first | (go_at_call 47; (with_reducible refine (HD1.out _).mono ?_); rintro _ V1 ⟨rfl, hb1⟩; (have hw := bl2 hw hb1; have g0 := g0.below hb1 g0.lt; have g1 := g1.below hb1 g1.lt; have g2 := g2.below hb1 g2.lt; (have c0 := g0.cell 0; have c1 := g0.cell 1; have c2 := g0.cell 2; have c3 := g0.cell 3; have c4 := g0.cell 4; have c5 := g0.cell 5; have c6 := g0.cell 6; simp at c0 c1 c2 c3 c4 c5 c6); (have s0 := g1.cell 0; have s1 := g1.cell 1; have s2 := g1.cell 2; have s3 := g1.cell 3; simp at s0 s1 s2 s3); (have k0 := g2.cell 0; have k1 := g2.cell 1; have k2 := g2.cell 2; have k3 := g2.cell 3; simp at k0 k1 k2 k3))) | (go_at_call 48; (with_reducible refine (HD2.out _).mono ?_); rintro _ V1 ⟨rfl, hb1⟩; (have hw := bl2 hw hb1; have g0 := g0.below hb1 g0.lt; have g1 := g1.below hb1 g1.lt; have g2 := g2.below hb1 g2.lt; (have c0 := g0.cell 0; have c1 := g0.cell 1; have c2 := g0.cell 2; have c3 := g0.cell 3; have c4 := g0.cell 4; have c5 := g0.cell 5; have c6 := g0.cell 6; simp at c0 c1 c2 c3 c4 c5 c6); (have s0 := g1.cell 0; have s1 := g1.cell 1; have s2 := g1.cell 2; have s3 := g1.cell 3; simp at s0 s1 s2 s3); (have k0 := g2.cell 0; have k1 := g2.cell 1; have k2 := g2.cell 2; have k3 := g2.cell 3; simp at k0 k1 k2 k3))))
      go_upto_region 10 with (first | (go_at_call 49; (with_reducible refine (HSV.out _).mono ?_); rintro _ V1 ⟨rfl, hb1⟩; (have hw := bl2 hw hb1; have g0 := g0.below hb1 g0.lt; have g1 := g1.below hb1 g1.lt; have g2 := g2.below hb1 g2.lt; (have c0 := g0.cell 0; have c1 := g0.cell 1; have c2 := g0.cell 2; have c3 := g0.cell 3; have c4 := g0.cell 4; have c5 := g0.cell 5; have c6 := g0.cell 6; simp at c0 c1 c2 c3 c4 c5 c6); (have s0 := g1.cell 0; have s1 := g1.cell 1; have s2 := g1.cell 2; have s3 := g1.cell 3; simp at s0 s1 s2 s3); (have k0 := g2.cell 0; have k1 := g2.cell 1; have k2 := g2.cell 2; have k3 := g2.cell 3; simp at k0 k1 k2 k3))) | (go_at_call 28; (with_reducible refine (HDV.out _).mono ?_); rintro _ _ ⟨rfl, rfl⟩))
      (refine wp_region_ext (by kernel_rfl) (by kernel_rfl) ?_; (repeat (go_big_quiet_step((first | (go_at_call 50; with_reducible exact Calls.ext_of (HRV.out _)) | (go_at_call 17; with_reducible exact Calls.ext_of (HK.out _)))))); with_reducible refine wpQuiet_nil ?_; intro w1 hw1; have hb1 := ext_below hw1; clear hw1)
      have hw := bl2 hw hb1
      go_wp2_with fail
      refine bodyPost_ret (v := .bool true) (by simp [results, Try.results8, go_sem]) rfl ?_
      exact ⟨rfl, hw⟩
end Go.Proofs.Ytfbnllmmoaialaa

/- almanac: the reference's Moon. -/
import Derived.Test.YtfbnllmmoaialaaGreatZ23Pd
import Derived.Deep.DeepCutAuto
import Derived.Test.YtfbnllmmoaialaaGreatZ20He
namespace Go.Proofs.YtfbnllmmoaialaaGreat
open Go.RowKit

theorem BI_zero {r : Lun} (ok : LunOk r) : BI r 0 = 0 := by
  obtain ⟨p, d, f, y, m, s, l⟩ := ok
  unfold BI atW
  rw [Int.mul_zero, Int.zero_add, Int.ediv_eq_zero_of_lt (by omega) (by omega)]
theorem FI_zero {r : Lun} (ok : LunOk r) : FI r 0 = 0 := by
  obtain ⟨p, d, f, y, m, s, l⟩ := ok
  unfold FI atW
  rw [Int.mul_zero, Int.zero_add, Int.ediv_eq_zero_of_lt (by omega) (by omega)]
set_option maxRecDepth 100000 in
set_option maxHeartbeats 8000000 in
theorem rmoon_any (d p f m y s l day : Int) (w : World) (hs : lunB ⟨d, p, f, m, y, s, l⟩ = true) (d0 : 0 ≤ day) (d1 : day ≤ 1000000) : Calls Tryz.prog 59 #[.agg #[.int .i64 d, .int .i64 p, .int .i64 f, .int .i64 m, .int .i64 y, .int .i64 s, .int .i64 l], .int .i64 day] w fun en w' => en = .returned (.agg #[.int .i64 (moonI ⟨d, p, f, m, y, s, l⟩ day).y, .int .i64 (moonI ⟨d, p, f, m, y, s, l⟩ day).m, .int .i64 (moonI ⟨d, p, f, m, y, s, l⟩ day).d, .bool (moonI ⟨d, p, f, m, y, s, l⟩ day).k]) ∧ Below w.heap.size w w' := by
  have ok := lunB_iff.1 hs
  have HOK := Lib.hid ok
  have hl := ok.l
  simp only at hl
  have HZB := Lib.hid (BI_zero ok); have HZF := Lib.hid (FI_zero ok)
  clear hs ok
  go_enter Tryz.func59, Tryz.ntmps59
  go_upto_region 1 with fail
  refine gen_w (fun W => Blk W w.heap.size #[.int .i64 d, .int .i64 p, .int .i64 f, .int .i64 m, .int .i64 y, .int .i64 s, .int .i64 l] 26 ∧ Blk W (w.heap.size + 1) #[.int .i64 0, .int .i64 0, .int .i64 0, .bool false] 59 ∧ Below w.heap.size w W) ⟨(Blk.at_ rfl).alloc _, Blk.at_ (by simp), by (repeat (first | exact Below.refl _ _ | assumption | (refine Below.alloc ?_ (by first | omega | (simp; omega) | (simp; done)) _) | (refine Below.setCell ?_ (by first | omega | (simp; omega) | (simp; done)) _) | (refine Below.drew ?_) | (refine belowN ?_ _) | (refine Below.trans ?_ (Below.mono ‹Below _ _ _› (by first | omega | (simp; omega) | (simp; done))))))⟩ ?_
  rintro V0 ⟨g0, g1, hw⟩
  (have c0 := g0.cell 0; have c1 := g0.cell 1; have c2 := g0.cell 2; have c3 := g0.cell 3; have c4 := g0.cell 4; have c5 := g0.cell 5; have c6 := g0.cell 6; simp at c0 c1 c2 c3 c4 c5 c6)
  go_wp2_with fail
  go_loopw [5] (fun v wr => ∃ n : Nat, v = .int .i64 n ∧ Hid (BI ⟨d, p, f, m, y, s, l⟩ n ≤ day) ∧ n ≤ 40000 ∧ Hid (Below w.heap.size w wr) ∧ Blk wr w.heap.size #[.int .i64 d, .int .i64 p, .int .i64 f, .int .i64 m, .int .i64 y, .int .i64 s, .int .i64 l] 26 ∧ Blk wr (w.heap.size + 1) #[.int .i64 0, .int .i64 0, .int .i64 0, .bool false] 59) (fun v _ => (40001 - intOf v).toNat)
  case atStart => exact ⟨0, rfl, (by rw [show ((0 : Nat) : Int) = 0 from rfl, HZB.out]; exact d0 : BI ⟨d, p, f, m, y, s, l⟩ ((0 : Nat) : Int) ≤ day), by omega, hw, g0, g1⟩
  case round =>
    clear hw g0 g1 c0 c1 c2 c3 c4 c5 c6
    obtain ⟨n, rfl, HLE, hn, hbw, g0, g1⟩ := hrel
    have hw := hbw.out
    clear hbw
    (have c0 := g0.cell 0; have c1 := g0.cell 1; have c2 := g0.cell 2; have c3 := g0.cell 3; have c4 := g0.cell 4; have c5 := g0.cell 5; have c6 := g0.cell 6; simp at c0 c1 c2 c3 c4 c5 c6)
    have HB := Lib.hid (fun W => rbegins_any d p f m y s l ((n : Int) + 1) W HOK.out (by omega) (by omega))
    have hge := BI_ge HOK.out (n := (n : Int) + 1) (by omega)
    have v1 : IntKind.i64.wrap ((n : Int) + 1) = (n : Int) + 1 := IntWalk.i64_in _ ⟨by omega, by omega⟩
    obtain ⟨B1, hB1⟩ : ∃ B, B = BI ⟨d, p, f, m, y, s, l⟩ ((n : Int) + 1) := ⟨_, rfl⟩
    rw [← hB1] at HB hge
    have HB1 := Lib.hid hB1
    clear hB1
    by_cases hc : B1 ≤ day
    · have t1 : decide (B1 ≤ day) = true := by simpa using hc
      go_wp2_with (go_at_call 92; (with_reducible refine (HB.out _).mono ?_); rintro _ V1 ⟨rfl, hb1⟩; (have hw := bl2 hw hb1; have g0 := g0.below hb1 g0.lt; have g1 := g1.below hb1 g1.lt; (have c0 := g0.cell 0; have c1 := g0.cell 1; have c2 := g0.cell 2; have c3 := g0.cell 3; have c4 := g0.cell 4; have c5 := g0.cell 5; have c6 := g0.cell 6; simp at c0 c1 c2 c3 c4 c5 c6)))
      go_roundw
      case rel => exact ⟨n + 1, by rw [show ((n + 1 : Nat) : Int) = (n : Int) + 1 by omega], (by rw [show ((n + 1 : Nat) : Int) = (n : Int) + 1 by omega, ← HB1.out]; exact hc : BI ⟨d, p, f, m, y, s, l⟩ ((n + 1 : Nat) : Int) ≤ day), by omega, hw, g0, g1⟩
      case measure => simp only [intOf]; omega
    · have t1 : decide (B1 ≤ day) = false := by simpa using hc
      have HMI : Hid (mI ⟨d, p, f, m, y, s, l⟩ day = n) := (mI_is HOK.out HLE.out (by rw [← HB1.out]; omega) : mI ⟨d, p, f, m, y, s, l⟩ day = n)
      go_upto_region 4 with (go_at_call 92; (with_reducible refine (HB.out _).mono ?_); rintro _ V1 ⟨rfl, hb1⟩; (have hw := bl2 hw hb1; have g0 := g0.below hb1 g0.lt; have g1 := g1.below hb1 g1.lt; (have c0 := g0.cell 0; have c1 := g0.cell 1; have c2 := g0.cell 2; have c3 := g0.cell 3; have c4 := g0.cell 4; have c5 := g0.cell 5; have c6 := g0.cell 6; simp at c0 c1 c2 c3 c4 c5 c6)))
      clear hb1 HB hge t1 HB1 hc v1
      go_loopw [6] (fun v wr => ∃ q : Nat, v = .int .i64 q ∧ Hid (FI ⟨d, p, f, m, y, s, l⟩ q ≤ n) ∧ q ≤ 40000 ∧ Hid (Below w.heap.size w wr) ∧ Blk wr w.heap.size #[.int .i64 d, .int .i64 p, .int .i64 f, .int .i64 m, .int .i64 y, .int .i64 s, .int .i64 l] 26 ∧ Blk wr (w.heap.size + 1) #[.int .i64 0, .int .i64 0, .int .i64 0, .bool false] 59) (fun v _ => (40001 - intOf v).toNat)
      case atStart => exact ⟨0, rfl, (by rw [show ((0 : Nat) : Int) = 0 from rfl, HZF.out]; omega : FI ⟨d, p, f, m, y, s, l⟩ ((0 : Nat) : Int) ≤ n), by omega, hw, g0, g1⟩
      case round =>
        clear hw g0 g1 c0 c1 c2 c3 c4 c5 c6
        obtain ⟨q, rfl, HLF, hq, hbw, g0, g1⟩ := hrel
        have hw := hbw.out
        clear hbw
        (have c0 := g0.cell 0; have c1 := g0.cell 1; have c2 := g0.cell 2; have c3 := g0.cell 3; have c4 := g0.cell 4; have c5 := g0.cell 5; have c6 := g0.cell 6; simp at c0 c1 c2 c3 c4 c5 c6)
        have HF1 := Lib.hid (fun W => rfirst_any d p f m y s l ((q : Int) + 1) W HOK.out (by omega) (by omega))
        have hge := FI_ge HOK.out (n := (q : Int) + 1) (by omega)
        have v1 : IntKind.i64.wrap ((q : Int) + 1) = (q : Int) + 1 := IntWalk.i64_in _ ⟨by omega, by omega⟩
        obtain ⟨FA, hFA⟩ : ∃ B, B = FI ⟨d, p, f, m, y, s, l⟩ ((q : Int) + 1) := ⟨_, rfl⟩
        rw [← hFA] at HF1 hge
        have HFA := Lib.hid hFA
        clear hFA
        by_cases hc : FA ≤ (n : Int)
        · have t1 : decide (FA ≤ (n : Int)) = true := by simpa using hc
          go_wp2_with (go_at_call 93; (with_reducible refine (HF1.out _).mono ?_); rintro _ V1 ⟨rfl, hb1⟩; (have hw := bl2 hw hb1; have g0 := g0.below hb1 g0.lt; have g1 := g1.below hb1 g1.lt; (have c0 := g0.cell 0; have c1 := g0.cell 1; have c2 := g0.cell 2; have c3 := g0.cell 3; have c4 := g0.cell 4; have c5 := g0.cell 5; have c6 := g0.cell 6; simp at c0 c1 c2 c3 c4 c5 c6)))
          go_roundw
          case rel => exact ⟨q + 1, by rw [show ((q + 1 : Nat) : Int) = (q : Int) + 1 by omega], (by rw [show ((q + 1 : Nat) : Int) = (q : Int) + 1 by omega, ← HFA.out]; exact hc : FI ⟨d, p, f, m, y, s, l⟩ ((q + 1 : Nat) : Int) ≤ n), by omega, hw, g0, g1⟩
          case measure => simp only [intOf]; omega
        · have t1 : decide (FA ≤ (n : Int)) = false := by simpa using hc
          have HYI : Hid (yI ⟨d, p, f, m, y, s, l⟩ day = q) := (yI_is HOK.out (by rw [HMI.out]; exact HLF.out) (by rw [HMI.out, ← HFA.out]; omega) : yI ⟨d, p, f, m, y, s, l⟩ day = q)
          have HB0 := Lib.hid (fun W => rbegins_any d p f m y s l (n : Int) W HOK.out (by omega) (by omega))
          have hB0b := (BI_bd HOK.out (n := (n : Int)) (by omega) (by omega)).2
          have HF0 := Lib.hid (fun W => rfirst_any d p f m y s l (q : Int) W HOK.out (by omega) (by omega))
          have hFB := (FI_bd HOK.out (n := (q : Int)) (by omega) (by omega)).2
          have hF := FI_step HOK.out (q : Int)
          have HFN := HLF.out
          obtain ⟨FB, hFBe⟩ : ∃ B, B = FI ⟨d, p, f, m, y, s, l⟩ q := ⟨_, rfl⟩
          obtain ⟨B0, hB0e⟩ : ∃ B, B = BI ⟨d, p, f, m, y, s, l⟩ n := ⟨_, rfl⟩
          have HLG : Hid (longM ⟨d, p, f, m, y, s, l⟩ q = (FA - FB == 13)) := (by rw [HFA.out, hFBe]; rfl : _ = _)
          rw [← hFBe] at HF0 hFB hF HFN
          rw [← hB0e] at HB0 hB0b
          rw [← HFA.out] at hF
          have HFBE := Lib.hid hFBe; have HB0E := Lib.hid hB0e
          have u2 : IntKind.i64.wrap (FA - FB) = FA - FB := IntWalk.i64_in _ ⟨by omega, by omega⟩
          have v2 : IntKind.i64.wrap (day - B0) = day - B0 := IntWalk.i64_in _ ⟨by omega, by omega⟩
          have v3 : IntKind.i64.wrap (day - B0 + 1) = day - B0 + 1 := IntWalk.i64_in _ ⟨by omega, by omega⟩
          clear hFBe hB0e
          go_upto_region 6 with (go_at_call 93; (with_reducible refine (HF1.out _).mono ?_); rintro _ V1 ⟨rfl, hb1⟩; (have hw := bl2 hw hb1; have g0 := g0.below hb1 g0.lt; have g1 := g1.below hb1 g1.lt; (have c0 := g0.cell 0; have c1 := g0.cell 1; have c2 := g0.cell 2; have c3 := g0.cell 3; have c4 := g0.cell 4; have c5 := g0.cell 5; have c6 := g0.cell 6; simp at c0 c1 c2 c3 c4 c5 c6)))
          clear hb1
          go_upto_region 7 with (go_at_call 92; (with_reducible refine (HB0.out _).mono ?_); rintro _ V1 ⟨rfl, hb1⟩; (have hw := bl2 hw hb1; have g0 := g0.below hb1 g0.lt; have g1 := g1.below hb1 g1.lt; (have c0 := g0.cell 0; have c1 := g0.cell 1; have c2 := g0.cell 2; have c3 := g0.cell 3; have c4 := g0.cell 4; have c5 := g0.cell 5; have c6 := g0.cell 6; simp at c0 c1 c2 c3 c4 c5 c6)))
          clear hb1
          obtain ⟨b7, hb7⟩ : ∃ b, b = V1.heap.size := ⟨_, rfl⟩
          rw [← hb7]
          obtain ⟨D, hD⟩ : ∃ D, D = day - B0 + 1 := ⟨_, rfl⟩
          rw [← hD]
          have HD := Lib.hid hD
          refine gen_w (fun W => Blk W w.heap.size #[.int .i64 d, .int .i64 p, .int .i64 f, .int .i64 m, .int .i64 y, .int .i64 s, .int .i64 l] 26 ∧ Blk W (w.heap.size + 1) #[.int .i64 0, .int .i64 0, .int .i64 0, .bool false] 59 ∧ Blk W b7 #[.int .i64 q, .int .i64 0, .int .i64 D, .bool false] 59 ∧ Below w.heap.size w W) ⟨g0.alloc _, g1.alloc _, Blk.at_ hb7, bla hw⟩ ?_
          have hb70 : w.heap.size + 1 < b7 := by have := g1.lt; omega
          clear g0 g1 hw hb7 c0 c1 c2 c3 c4 c5 c6 hD v2 v3
          rintro V2 ⟨g0, g1, g2, hw⟩
          (have c0 := g0.cell 0; have c1 := g0.cell 1; have c2 := g0.cell 2; have c3 := g0.cell 3; have c4 := g0.cell 4; have c5 := g0.cell 5; have c6 := g0.cell 6; simp at c0 c1 c2 c3 c4 c5 c6)
          go_upto_region 8 with (go_at_call 93; (with_reducible refine (HF0.out _).mono ?_); rintro _ V1 ⟨rfl, hb1⟩; have g2 := g2.below hb1 g2.lt; (have hw := bl2 hw hb1; have g0 := g0.below hb1 g0.lt; have g1 := g1.below hb1 g1.lt; (have c0 := g0.cell 0; have c1 := g0.cell 1; have c2 := g0.cell 2; have c3 := g0.cell 3; have c4 := g0.cell 4; have c5 := g0.cell 5; have c6 := g0.cell 6; simp at c0 c1 c2 c3 c4 c5 c6)))
          clear hb1
          go_loopw [8] (fun i wr => ∃ t : Nat, FB + (t : Int) ≤ (n : Int) + 1 ∧ i = .int .i64 (FB + t) ∧ Hid (Below w.heap.size w wr) ∧ Blk wr w.heap.size #[.int .i64 d, .int .i64 p, .int .i64 f, .int .i64 m, .int .i64 y, .int .i64 s, .int .i64 l] 26 ∧ Blk wr (w.heap.size + 1) #[.int .i64 0, .int .i64 0, .int .i64 0, .bool false] 59 ∧ Blk wr b7 #[.int .i64 q, .int .i64 (nameM ⟨d, p, f, m, y, s, l⟩ q t).1, .int .i64 D, .bool (nameM ⟨d, p, f, m, y, s, l⟩ q t).2] 59) (fun i _ => ((n : Int) + 1 - intOf i).toNat)
          case atStart =>
            have hz := nameM_zero HOK.out (q : Int)
            exact ⟨0, by omega, by simp, hw, g0, g1, by rw [show ((0 : Nat) : Int) = 0 from rfl, hz]; exact g2⟩
          case round =>
            clear hw g0 g1 g2 c0 c1 c2 c3 c4 c5 c6
            obtain ⟨t, ht, rfl, hbw, g0, g1, g2⟩ := hrel
            have hw := hbw.out
            clear hbw
            by_cases hlt : FB + (t : Int) ≤ (n : Int)
            · have t2 : decide (FB + (t : Int) ≤ (n : Int)) = true := by simpa using hlt
              have hnb := nameM_bd (r := ⟨d, p, f, m, y, s, l⟩) (y := (q : Int)) (t := (t : Int)) (by omega)
              have HST : Hid (nameM ⟨d, p, f, m, y, s, l⟩ q ((t + 1 : Nat) : Int) = _) := (nameM_step (r := ⟨d, p, f, m, y, s, l⟩) (y := (q : Int)) (t := (t : Int)) (by omega) hl.1 : _ = _)
              obtain ⟨⟨mo, lp⟩, hqq⟩ : ∃ z, z = nameM ⟨d, p, f, m, y, s, l⟩ q t := ⟨_, rfl⟩
              rw [← hqq, HLG.out] at HST
              rw [← hqq] at hnb g2
              simp only at hnb HST g2
              obtain ⟨lp2, hlp2⟩ : ∃ b, b = leapS (FA - FB == 13) l (mo, lp) := ⟨_, rfl⟩
              rw [← hlp2] at HST
              have HLP := Lib.hid hlp2
              have v2 : IntKind.i64.wrap (mo + 1) = mo + 1 := IntWalk.i64_in _ ⟨by omega, by omega⟩
              have v6 : IntKind.i64.wrap (FB + (t : Int) + 1) = FB + (t : Int) + 1 := IntWalk.i64_in _ ⟨by omega, by omega⟩
              clear hqq hlp2
              (have c0 := g0.cell 0; have c1 := g0.cell 1; have c2 := g0.cell 2; have c3 := g0.cell 3; have c4 := g0.cell 4; have c5 := g0.cell 5; have c6 := g0.cell 6; simp at c0 c1 c2 c3 c4 c5 c6)
              (have s0 := g2.cell 0; have s1 := g2.cell 1; have s2 := g2.cell 2; have s3 := g2.cell 3; simp at s0 s1 s2 s3; have f0 := g2.free 0; have f1 := g2.free 1; have f2 := g2.free 2; have f3 := g2.free 3)
              go_upto_region 10 with fail
              rename World => V9
              go_cut [61] (fun s61 wx => s61 = .bool lp2 ∧ Below w.heap.size w wx ∧ Blk wx w.heap.size #[.int .i64 d, .int .i64 p, .int .i64 f, .int .i64 m, .int .i64 y, .int .i64 s, .int .i64 l] 26 ∧ Blk wx (w.heap.size + 1) #[.int .i64 0, .int .i64 0, .int .i64 0, .bool false] 59 ∧ Blk wx b7 #[.int .i64 q, .int .i64 mo, .int .i64 D, .bool lp2] 59)
              case first =>
                have hl2 := HLP.out
                unfold leapS at hl2
                simp only at hl2
                cases b1 : (FA - FB == 13) with
                | false =>
                  rw [b1] at hl2; simp at hl2; subst hl2
                  clear HLP HST
                  refine wp_region_tail 22 (by kernel_rfl) (by kernel_rfl) ?_
                  simp only [List.take_succ_cons, List.take_zero, List.drop_succ_cons, List.drop_zero]
                  (repeat (go_big_quiet_step (first | (go_at_call 93; with_reducible exact Calls.ext_of (HF0.out _)) | (go_at_call 93; with_reducible exact Calls.ext_of (HF1.out _)))))
                  with_reducible refine wpQuiet_nil ?_
                  intro w3 hw3
                  have hb3 := ext_below hw3
                  clear hw3
                  have hw := bl2 hw hb3
                  have g0 := g0.below hb3 g0.lt
                  have g1 := g1.below hb3 g1.lt
                  have g2 := g2.below hb3 g2.lt
                  (have s0 := g2.cell 0; have s1 := g2.cell 1; have s2 := g2.cell 2; have s3 := g2.cell 3; simp at s0 s1 s2 s3; have f0 := g2.free 0; have f1 := g2.free 1; have f2 := g2.free 2; have f3 := g2.free 3)
                  go_wp2_with fail
                  go_meet
                  refine ⟨rfl, hw.setCell (p := ⟨b7, 3, none⟩) (by show w.heap.size ≤ b7; omega) _, g0.far ⟨b7, 3, none⟩ (by show w.heap.size ≠ b7; omega) _, g1.far ⟨b7, 3, none⟩ (by show w.heap.size + 1 ≠ b7; omega) _, ?_⟩
                  have h3 := g2.set 3 (.bool false)
                  simpa using h3
                | true =>
                  cases b2 : (mo == l) with
                  | false =>
                    rw [b1, b2] at hl2; simp at hl2; subst hl2
                    clear HLP HST
                    refine wp_region_tail 22 (by kernel_rfl) (by kernel_rfl) ?_
                    simp only [List.take_succ_cons, List.take_zero, List.drop_succ_cons, List.drop_zero]
                    (repeat (go_big_quiet_step (first | (go_at_call 93; with_reducible exact Calls.ext_of (HF0.out _)) | (go_at_call 93; with_reducible exact Calls.ext_of (HF1.out _)))))
                    with_reducible refine wpQuiet_nil ?_
                    intro w3 hw3
                    have hb3 := ext_below hw3
                    clear hw3
                    have hw := bl2 hw hb3
                    have g0 := g0.below hb3 g0.lt
                    have g1 := g1.below hb3 g1.lt
                    have g2 := g2.below hb3 g2.lt
                    (have s0 := g2.cell 0; have s1 := g2.cell 1; have s2 := g2.cell 2; have s3 := g2.cell 3; simp at s0 s1 s2 s3; have f0 := g2.free 0; have f1 := g2.free 1; have f2 := g2.free 2; have f3 := g2.free 3)
                    go_wp2_with fail
                    go_meet
                    refine ⟨rfl, hw.setCell (p := ⟨b7, 3, none⟩) (by show w.heap.size ≤ b7; omega) _, g0.far ⟨b7, 3, none⟩ (by show w.heap.size ≠ b7; omega) _, g1.far ⟨b7, 3, none⟩ (by show w.heap.size + 1 ≠ b7; omega) _, ?_⟩
                    have h3 := g2.set 3 (.bool false)
                    simpa using h3
                  | true =>
                    cases lp with
                    | true =>
                      rw [b1, b2] at hl2; simp at hl2; subst hl2
                      clear HLP HST
                      refine wp_region_tail 22 (by kernel_rfl) (by kernel_rfl) ?_
                      simp only [List.take_succ_cons, List.take_zero, List.drop_succ_cons, List.drop_zero]
                      (repeat (go_big_quiet_step (first | (go_at_call 93; with_reducible exact Calls.ext_of (HF0.out _)) | (go_at_call 93; with_reducible exact Calls.ext_of (HF1.out _)))))
                      with_reducible refine wpQuiet_nil ?_
                      intro w3 hw3
                      have hb3 := ext_below hw3
                      clear hw3
                      have hw := bl2 hw hb3
                      have g0 := g0.below hb3 g0.lt
                      have g1 := g1.below hb3 g1.lt
                      have g2 := g2.below hb3 g2.lt
                      (have s0 := g2.cell 0; have s1 := g2.cell 1; have s2 := g2.cell 2; have s3 := g2.cell 3; simp at s0 s1 s2 s3; have f0 := g2.free 0; have f1 := g2.free 1; have f2 := g2.free 2; have f3 := g2.free 3)
                      go_wp2_with fail
                      go_meet
                      refine ⟨rfl, hw.setCell (p := ⟨b7, 3, none⟩) (by show w.heap.size ≤ b7; omega) _, g0.far ⟨b7, 3, none⟩ (by show w.heap.size ≠ b7; omega) _, g1.far ⟨b7, 3, none⟩ (by show w.heap.size + 1 ≠ b7; omega) _, ?_⟩
                      have h3 := g2.set 3 (.bool false)
                      simpa using h3
                    | false =>
                      rw [b1, b2] at hl2; simp at hl2; subst hl2
                      clear HLP HST
                      refine wp_region_tail 22 (by kernel_rfl) (by kernel_rfl) ?_
                      simp only [List.take_succ_cons, List.take_zero, List.drop_succ_cons, List.drop_zero]
                      (repeat (go_big_quiet_step (first | (go_at_call 93; with_reducible exact Calls.ext_of (HF0.out _)) | (go_at_call 93; with_reducible exact Calls.ext_of (HF1.out _)))))
                      with_reducible refine wpQuiet_nil ?_
                      intro w3 hw3
                      have hb3 := ext_below hw3
                      clear hw3
                      have hw := bl2 hw hb3
                      have g0 := g0.below hb3 g0.lt
                      have g1 := g1.below hb3 g1.lt
                      have g2 := g2.below hb3 g2.lt
                      (have s0 := g2.cell 0; have s1 := g2.cell 1; have s2 := g2.cell 2; have s3 := g2.cell 3; simp at s0 s1 s2 s3; have f0 := g2.free 0; have f1 := g2.free 1; have f2 := g2.free 2; have f3 := g2.free 3)
                      go_wp2_with fail
                      go_meet
                      refine ⟨rfl, hw.setCell (p := ⟨b7, 3, none⟩) (by show w.heap.size ≤ b7; omega) _, g0.far ⟨b7, 3, none⟩ (by show w.heap.size ≠ b7; omega) _, g1.far ⟨b7, 3, none⟩ (by show w.heap.size + 1 ≠ b7; omega) _, ?_⟩
                      have h3 := g2.set 3 (.bool true)
                      simpa using h3
              case rest =>
                obtain ⟨rfl, hw2, k0, k1, k2⟩ := hcut
                rename World => V5
                clear hw g0 g1 g2 c0 c1 c2 c3 c4 c5 c6 s0 s1 s2 s3 f0 f1 f2 f3 HLP
                have hw := hw2
                have g0 := k0
                have g1 := k1
                have g2 := k2
                clear hw2 k0 k1 k2
                (have s0 := g2.cell 0; have s1 := g2.cell 1; have s2 := g2.cell 2; have s3 := g2.cell 3; simp at s0 s1 s2 s3; have f0 := g2.free 0; have f1 := g2.free 1; have f2 := g2.free 2; have f3 := g2.free 3)
                cases lp2 with
                | true =>
                  have HN2 : Hid (nameM ⟨d, p, f, m, y, s, l⟩ q ((t + 1 : Nat) : Int) = (mo, true)) := HST
                  clear HST
                  go_wp2_with fail
                  go_roundw
                  case rel => exact ⟨t + 1, by omega, by rw [show FB + ((t + 1 : Nat) : Int) = FB + (t : Int) + 1 by omega], hw, g0, g1, by rw [HN2.out]; exact g2⟩
                  case measure => simp only [intOf]; omega
                | false =>
                  have HN2 : Hid (nameM ⟨d, p, f, m, y, s, l⟩ q ((t + 1 : Nat) : Int) = (mo + 1, false)) := HST
                  clear HST
                  go_wp2_with fail
                  go_roundw
                  case rel =>
                    refine ⟨t + 1, by omega, by rw [show FB + ((t + 1 : Nat) : Int) = FB + (t : Int) + 1 by omega], hw.setCell (p := ⟨b7, 1, none⟩) (by show w.heap.size ≤ b7; omega) _, g0.far ⟨b7, 1, none⟩ (by show w.heap.size ≠ b7; omega) _, g1.far ⟨b7, 1, none⟩ (by show w.heap.size + 1 ≠ b7; omega) _, ?_⟩
                    rw [HN2.out]
                    have h3 := g2.set 1 (.int .i64 (mo + 1))
                    simpa using h3
                  case measure => simp only [intOf]; omega
            · have t2 : decide (FB + (t : Int) ≤ (n : Int)) = false := by simpa using hlt
              have HR : Hid (moonI ⟨d, p, f, m, y, s, l⟩ day = ⟨q, (nameM ⟨d, p, f, m, y, s, l⟩ q t).1, D, (nameM ⟨d, p, f, m, y, s, l⟩ q t).2⟩) := (by
                rw [moonI_eq, HYI.out, HMI.out, ← HFBE.out, ← HB0E.out, HD.out, show (n : Int) - FB + 1 = (t : Int) by omega] : _ = _)
              obtain ⟨⟨mo, lp⟩, hqq⟩ : ∃ z, z = nameM ⟨d, p, f, m, y, s, l⟩ q t := ⟨_, rfl⟩
              rw [← hqq] at HR g2
              simp only at HR g2
              clear hqq
              (have s0 := g2.cell 0; have s1 := g2.cell 1; have s2 := g2.cell 2; have s3 := g2.cell 3; simp at s0 s1 s2 s3; have f0 := g2.free 0; have f1 := g2.free 1; have f2 := g2.free 2; have f3 := g2.free 3)
              have h0 := g1.free 0; have h1 := g1.free 1; have h2 := g1.free 2; have h3 := g1.free 3
              have k0 := g1.cell 0; have k1 := g1.cell 1; have k2 := g1.cell 2; have k3 := g1.cell 3
              simp at k0 k1 k2 k3
              go_wp2_with fail
              have hle2 : w.heap.size ≤ w.heap.size + 1 := by omega
              have g3 := blk4 g1 (.int .i64 q) (.int .i64 mo) (.int .i64 D) (.bool lp)
              have hw3 := (((hw.setCell (p := ⟨w.heap.size + 1, 0, none⟩) hle2 (.int .i64 q)).setCell (p := ⟨w.heap.size + 1, 1, none⟩) hle2 (.int .i64 mo)).setCell (p := ⟨w.heap.size + 1, 2, none⟩) hle2 (.int .i64 D)).setCell (p := ⟨w.heap.size + 1, 3, none⟩) hle2 (.bool lp)
              generalize (((wr.setCell ⟨w.heap.size + 1, 0, none⟩ (.int .i64 q)).setCell ⟨w.heap.size + 1, 1, none⟩ (.int .i64 mo)).setCell ⟨w.heap.size + 1, 2, none⟩ (.int .i64 D)).setCell ⟨w.heap.size + 1, 3, none⟩ (.bool lp) = W3 at g3 hw3 ⊢
              have q0 := g3.cell 0; have q1 := g3.cell 1; have q2 := g3.cell 2; have q3 := g3.cell 3
              simp at q0 q1 q2 q3
              refine bodyPost_ret (v := .agg #[.int .i64 q, .int .i64 mo, .int .i64 D, .bool lp]) (by simp [results, Tryz.results59, go_sem, q0, q1, q2, q3]) rfl ?_
              rw [HR.out]
              exact ⟨rfl, hw3⟩
end Go.Proofs.YtfbnllmmoaialaaGreat
namespace Go.Proofs.YtfbnllmmoaialaaGreat
open Go.RowKit

theorem rdivides_any (n y : Int) (w : World) (n0 : 0 ≤ n) (n1 : n ≤ 100000) (y0 : 0 ≤ y) (y1 : y ≤ 1000000) : Calls Tryz.prog 104 #[.int .i64 n, .int .i64 y] w fun e w' => e = .returned (.bool (divB n y)) ∧ Below w.heap.size w w' := by
  by_cases hn : n = 0
  · subst hn
    have HT : Hid (divB 0 y = false) := (by simp [divB] : divB 0 y = false)
    go_enter Tryz.func104, Tryz.ntmps104
    go_wp2
    go_ret
    exact ⟨ret_bool HT.out.symm, by (repeat (first | exact Below.refl _ _ | assumption | (refine Below.alloc ?_ (by first | omega | (simp; omega) | (simp; done)) _) | (refine Below.setCell ?_ (by first | omega | (simp; omega) | (simp; done)) _) | (refine Below.drew ?_) | (refine belowN ?_ _) | (refine Below.trans ?_ (Below.mono ‹Below _ _ _› (by first | omega | (simp; omega) | (simp; done))))))⟩
  · have z0 : (n == 0) = false := by simpa using hn
    have z1 : (n != 0) = true := by simpa using hn
    have e0 := Int.emod_nonneg y hn
    have e1 := Int.emod_lt_of_pos y (show 0 < n by omega)
    have w1 : IntKind.i64.wrap (y % n) = y % n := IntWalk.i64_in _ ⟨by omega, by omega⟩
    have HT : Hid (divB n y = (y % n == 0)) := (by simp [divB, hn]; rfl : divB n y = (y % n == 0))
    clear hn
    go_enter Tryz.func104, Tryz.ntmps104
    go_wp2
    go_ret
    exact ⟨ret_bool HT.out.symm, by (repeat (first | exact Below.refl _ _ | assumption | (refine Below.alloc ?_ (by first | omega | (simp; omega) | (simp; done)) _) | (refine Below.setCell ?_ (by first | omega | (simp; omega) | (simp; done)) _) | (refine Below.drew ?_) | (refine belowN ?_ _) | (refine Below.trans ?_ (Below.mono ‹Below _ _ _› (by first | omega | (simp; omega) | (simp; done))))))⟩
theorem rdivides_val {n y : Int} {v : Bool} (h : divB n y = v) (n0 : 0 ≤ n) (n1 : n ≤ 100000) (y0 : 0 ≤ y) (y1 : y ≤ 1000000) (w : World) : Calls Tryz.prog 104 #[.int .i64 n, .int .i64 y] w fun e w' => e = .returned (.bool v) ∧ Below w.heap.size w w' := h ▸ rdivides_any n y w n0 n1 y0 y1
theorem rlong_any (e b u y : Int) (w : World) (ok : SolOk ⟨e, b, u⟩) (y0 : 0 ≤ y) (y1 : y ≤ 1000000) : Calls Tryz.prog 102 #[.agg #[.int .i64 e, .int .i64 b, .int .i64 u], .int .i64 y] w fun en w' => en = .returned (.bool (longB ⟨e, b, u⟩ y)) ∧ Below w.heap.size w w' := by
  obtain ⟨⟨a1, a2⟩, ⟨a3, a4⟩, a5, a6⟩ := ok
  simp only at a1 a2 a3 a4 a5 a6
  cases h1 : divB e y with
  | false =>
    have H1 := Lib.hid (fun W => rdivides_val h1 a1 a2 y0 y1 W)
    have HT : Hid (longB ⟨e, b, u⟩ y = false) := (by simp [longB, h1] : longB ⟨e, b, u⟩ y = _)
    clear h1
    go_enter Tryz.func102, Tryz.ntmps102
    go_upto_region 1 with fail
    have g0 : Blk (w.alloc (.cells #[.int .i64 e, .int .i64 b, .int .i64 u] 24)) w.heap.size #[.int .i64 e, .int .i64 b, .int .i64 u] 24 := Blk.at_ rfl
    have hw : Below w.heap.size w (w.alloc (.cells #[.int .i64 e, .int .i64 b, .int .i64 u] 24)) := by (repeat (first | exact Below.refl _ _ | assumption | (refine Below.alloc ?_ (by first | omega | (simp; omega) | (simp; done)) _) | (refine Below.setCell ?_ (by first | omega | (simp; omega) | (simp; done)) _) | (refine Below.drew ?_) | (refine belowN ?_ _) | (refine Below.trans ?_ (Below.mono ‹Below _ _ _› (by first | omega | (simp; omega) | (simp; done))))))
    go_wp2_with (first | (go_at_call 104; (with_reducible refine (H1.out _).mono ?_); rintro _ V1 ⟨rfl, hb1⟩; (have g0 := g0.below hb1 g0.lt; have c0 := g0.cell 0; have c1 := g0.cell 1; have c2 := g0.cell 2; simp at c0 c1 c2; have hw := bl2 hw hb1)) | (go_at_call 104; (with_reducible refine (H2.out _).mono ?_); rintro _ V2 ⟨rfl, hb1⟩; (have g0 := g0.below hb1 g0.lt; have c0 := g0.cell 0; have c1 := g0.cell 1; have c2 := g0.cell 2; simp at c0 c1 c2; have hw := bl2 hw hb1)) | (go_at_call 104; (with_reducible refine (H3.out _).mono ?_); rintro _ V3 ⟨rfl, hb1⟩; (have g0 := g0.below hb1 g0.lt; have c0 := g0.cell 0; have c1 := g0.cell 1; have c2 := g0.cell 2; simp at c0 c1 c2; have hw := bl2 hw hb1)))
    go_ret
    exact ⟨ret_bool HT.out.symm, hw⟩
  | true =>
    have H1 := Lib.hid (fun W => rdivides_val h1 a1 a2 y0 y1 W)
    cases h2 : divB b y with
    | false =>
      have H2 := Lib.hid (fun W => rdivides_val h2 a3 a4 y0 y1 W)
      have HT : Hid (longB ⟨e, b, u⟩ y = true) := (by simp [longB, h1, h2] : longB ⟨e, b, u⟩ y = _)
      clear h1 h2
      go_enter Tryz.func102, Tryz.ntmps102
      go_upto_region 1 with fail
      have g0 : Blk (w.alloc (.cells #[.int .i64 e, .int .i64 b, .int .i64 u] 24)) w.heap.size #[.int .i64 e, .int .i64 b, .int .i64 u] 24 := Blk.at_ rfl
      have hw : Below w.heap.size w (w.alloc (.cells #[.int .i64 e, .int .i64 b, .int .i64 u] 24)) := by (repeat (first | exact Below.refl _ _ | assumption | (refine Below.alloc ?_ (by first | omega | (simp; omega) | (simp; done)) _) | (refine Below.setCell ?_ (by first | omega | (simp; omega) | (simp; done)) _) | (refine Below.drew ?_) | (refine belowN ?_ _) | (refine Below.trans ?_ (Below.mono ‹Below _ _ _› (by first | omega | (simp; omega) | (simp; done))))))
      go_wp2_with (first | (go_at_call 104; (with_reducible refine (H1.out _).mono ?_); rintro _ V1 ⟨rfl, hb1⟩; (have g0 := g0.below hb1 g0.lt; have c0 := g0.cell 0; have c1 := g0.cell 1; have c2 := g0.cell 2; simp at c0 c1 c2; have hw := bl2 hw hb1)) | (go_at_call 104; (with_reducible refine (H2.out _).mono ?_); rintro _ V2 ⟨rfl, hb1⟩; (have g0 := g0.below hb1 g0.lt; have c0 := g0.cell 0; have c1 := g0.cell 1; have c2 := g0.cell 2; simp at c0 c1 c2; have hw := bl2 hw hb1)) | (go_at_call 104; (with_reducible refine (H3.out _).mono ?_); rintro _ V3 ⟨rfl, hb1⟩; (have g0 := g0.below hb1 g0.lt; have c0 := g0.cell 0; have c1 := g0.cell 1; have c2 := g0.cell 2; simp at c0 c1 c2; have hw := bl2 hw hb1)))
      go_ret
      exact ⟨ret_bool HT.out.symm, hw⟩
    | true =>
      have H2 := Lib.hid (fun W => rdivides_val h2 a3 a4 y0 y1 W)
      have H3 := Lib.hid (fun W => rdivides_any u y W a5 a6 y0 y1)
      obtain ⟨v3, h3⟩ : ∃ v, v = divB u y := ⟨_, rfl⟩
      rw [← h3] at H3
      have HT : Hid (longB ⟨e, b, u⟩ y = v3) := (by simp [longB, h1, h2, h3] : longB ⟨e, b, u⟩ y = _)
      clear h1 h2 h3
      go_enter Tryz.func102, Tryz.ntmps102
      go_upto_region 1 with fail
      have g0 : Blk (w.alloc (.cells #[.int .i64 e, .int .i64 b, .int .i64 u] 24)) w.heap.size #[.int .i64 e, .int .i64 b, .int .i64 u] 24 := Blk.at_ rfl
      have hw : Below w.heap.size w (w.alloc (.cells #[.int .i64 e, .int .i64 b, .int .i64 u] 24)) := by (repeat (first | exact Below.refl _ _ | assumption | (refine Below.alloc ?_ (by first | omega | (simp; omega) | (simp; done)) _) | (refine Below.setCell ?_ (by first | omega | (simp; omega) | (simp; done)) _) | (refine Below.drew ?_) | (refine belowN ?_ _) | (refine Below.trans ?_ (Below.mono ‹Below _ _ _› (by first | omega | (simp; omega) | (simp; done))))))
      go_wp2_with (first | (go_at_call 104; (with_reducible refine (H1.out _).mono ?_); rintro _ V1 ⟨rfl, hb1⟩; (have g0 := g0.below hb1 g0.lt; have c0 := g0.cell 0; have c1 := g0.cell 1; have c2 := g0.cell 2; simp at c0 c1 c2; have hw := bl2 hw hb1)) | (go_at_call 104; (with_reducible refine (H2.out _).mono ?_); rintro _ V2 ⟨rfl, hb1⟩; (have g0 := g0.below hb1 g0.lt; have c0 := g0.cell 0; have c1 := g0.cell 1; have c2 := g0.cell 2; simp at c0 c1 c2; have hw := bl2 hw hb1)) | (go_at_call 104; (with_reducible refine (H3.out _).mono ?_); rintro _ V3 ⟨rfl, hb1⟩; (have g0 := g0.below hb1 g0.lt; have c0 := g0.cell 0; have c1 := g0.cell 1; have c2 := g0.cell 2; simp at c0 c1 c2; have hw := bl2 hw hb1)))
      go_ret
      exact ⟨ret_bool HT.out.symm, hw⟩
theorem rlong_val {e b u y : Int} {v : Bool} (h : longB ⟨e, b, u⟩ y = v) (ok : SolOk ⟨e, b, u⟩) (y0 : 0 ≤ y) (y1 : y ≤ 1000000) (w : World) : Calls Tryz.prog 102 #[.agg #[.int .i64 e, .int .i64 b, .int .i64 u], .int .i64 y] w fun en w' => en = .returned (.bool v) ∧ Below w.heap.size w w' := h ▸ rlong_any e b u y w ok y0 y1
/-- how many days a month has -/
def monthN (r : Sol) (y m : Int) : Int := if m = 2 then (if longB r y then 29 else 28) else if m = 4 ∨ m = 6 ∨ m = 9 ∨ m = 11 then 30 else 31
theorem monthN_bd (r : Sol) (y m : Int) : 28 ≤ monthN r y m ∧ monthN r y m ≤ 31 := by
  unfold monthN; split <;> split <;> omega
theorem monthN_at {r : Sol} (ok : SolOk r) {y : Int} (y0 : 0 ≤ y) : ∀ {k : Nat} (hk : k < (monL (extraN r y)).length), (monL (extraN r y))[k] = monthN r y ((k : Int) + 1) := by
  intro k hk
  have hk' : k < 12 := hk
  have hx := extraN_eq ok y0
  have h12 : k = 0 ∨ k = 1 ∨ k = 2 ∨ k = 3 ∨ k = 4 ∨ k = 5 ∨ k = 6 ∨ k = 7 ∨ k = 8 ∨ k = 9 ∨ k = 10 ∨ k = 11 := by omega
  rcases h12 with h | h | h | h | h | h | h | h | h | h | h | h <;> subst h <;> simp [monL, monthN, hx] <;> (split <;> rfl)
theorem rmonth_any (e b u y m : Int) (w : World) (ok : SolOk ⟨e, b, u⟩) (y0 : 0 ≤ y) (y1 : y ≤ 1000000) : Calls Tryz.prog 91 #[.agg #[.int .i64 e, .int .i64 b, .int .i64 u], .int .i64 y, .int .i64 m] w fun en w' => en = .returned (.int .i64 (monthN ⟨e, b, u⟩ y m)) ∧ Below w.heap.size w w' := by
  by_cases h2 : m = 2
  · subst h2
    cases hl : longB ⟨e, b, u⟩ y with
    | true =>
      have H1 := Lib.hid (fun W => rlong_val hl ok y0 y1 W)
      have HT : Hid (monthN ⟨e, b, u⟩ y 2 = 29) := (by simp [monthN, hl] : monthN ⟨e, b, u⟩ y 2 = _)
      clear hl ok
      go_enter Tryz.func91, Tryz.ntmps91
      go_wp2_with (go_at_call 102; (with_reducible refine (H1.out _).mono ?_); rintro _ V1 ⟨rfl, hb1⟩)
      go_ret
      exact ⟨ret_int HT.out.symm, bl2 (by (repeat (first | exact Below.refl _ _ | assumption | (refine Below.alloc ?_ (by first | omega | (simp; omega) | (simp; done)) _) | (refine Below.setCell ?_ (by first | omega | (simp; omega) | (simp; done)) _) | (refine Below.drew ?_) | (refine belowN ?_ _) | (refine Below.trans ?_ (Below.mono ‹Below _ _ _› (by first | omega | (simp; omega) | (simp; done))))))) hb1⟩
    | false =>
      have H1 := Lib.hid (fun W => rlong_val hl ok y0 y1 W)
      have HT : Hid (monthN ⟨e, b, u⟩ y 2 = 28) := (by simp [monthN, hl] : monthN ⟨e, b, u⟩ y 2 = _)
      clear hl ok
      go_enter Tryz.func91, Tryz.ntmps91
      go_wp2_with (go_at_call 102; (with_reducible refine (H1.out _).mono ?_); rintro _ V1 ⟨rfl, hb1⟩)
      go_ret
      exact ⟨ret_int HT.out.symm, bl2 (by (repeat (first | exact Below.refl _ _ | assumption | (refine Below.alloc ?_ (by first | omega | (simp; omega) | (simp; done)) _) | (refine Below.setCell ?_ (by first | omega | (simp; omega) | (simp; done)) _) | (refine Below.drew ?_) | (refine belowN ?_ _) | (refine Below.trans ?_ (Below.mono ‹Below _ _ _› (by first | omega | (simp; omega) | (simp; done))))))) hb1⟩
  · have t2 : (m == 2) = false := by simpa using h2
    by_cases h4 : m = 4
    · subst h4
      have HT : Hid (monthN ⟨e, b, u⟩ y 4 = 30) := (by simp [monthN] : monthN ⟨e, b, u⟩ y 4 = _)
      go_enter Tryz.func91, Tryz.ntmps91
      go_wp2
      go_ret
      exact ⟨ret_int HT.out.symm, by (repeat (first | exact Below.refl _ _ | assumption | (refine Below.alloc ?_ (by first | omega | (simp; omega) | (simp; done)) _) | (refine Below.setCell ?_ (by first | omega | (simp; omega) | (simp; done)) _) | (refine Below.drew ?_) | (refine belowN ?_ _) | (refine Below.trans ?_ (Below.mono ‹Below _ _ _› (by first | omega | (simp; omega) | (simp; done))))))⟩
    · have t4 : (m == 4) = false := by simpa using h4
      by_cases h6 : m = 6
      · subst h6
        have HT : Hid (monthN ⟨e, b, u⟩ y 6 = 30) := (by simp [monthN] : monthN ⟨e, b, u⟩ y 6 = _)
        go_enter Tryz.func91, Tryz.ntmps91
        go_wp2
        go_ret
        exact ⟨ret_int HT.out.symm, by (repeat (first | exact Below.refl _ _ | assumption | (refine Below.alloc ?_ (by first | omega | (simp; omega) | (simp; done)) _) | (refine Below.setCell ?_ (by first | omega | (simp; omega) | (simp; done)) _) | (refine Below.drew ?_) | (refine belowN ?_ _) | (refine Below.trans ?_ (Below.mono ‹Below _ _ _› (by first | omega | (simp; omega) | (simp; done))))))⟩
      · have t6 : (m == 6) = false := by simpa using h6
        by_cases h9 : m = 9
        · subst h9
          have HT : Hid (monthN ⟨e, b, u⟩ y 9 = 30) := (by simp [monthN] : monthN ⟨e, b, u⟩ y 9 = _)
          go_enter Tryz.func91, Tryz.ntmps91
          go_wp2
          go_ret
          exact ⟨ret_int HT.out.symm, by (repeat (first | exact Below.refl _ _ | assumption | (refine Below.alloc ?_ (by first | omega | (simp; omega) | (simp; done)) _) | (refine Below.setCell ?_ (by first | omega | (simp; omega) | (simp; done)) _) | (refine Below.drew ?_) | (refine belowN ?_ _) | (refine Below.trans ?_ (Below.mono ‹Below _ _ _› (by first | omega | (simp; omega) | (simp; done))))))⟩
        · have t9 : (m == 9) = false := by simpa using h9
          by_cases h11 : m = 11
          · subst h11
            have HT : Hid (monthN ⟨e, b, u⟩ y 11 = 30) := (by simp [monthN] : monthN ⟨e, b, u⟩ y 11 = _)
            go_enter Tryz.func91, Tryz.ntmps91
            go_wp2
            go_ret
            exact ⟨ret_int HT.out.symm, by (repeat (first | exact Below.refl _ _ | assumption | (refine Below.alloc ?_ (by first | omega | (simp; omega) | (simp; done)) _) | (refine Below.setCell ?_ (by first | omega | (simp; omega) | (simp; done)) _) | (refine Below.drew ?_) | (refine belowN ?_ _) | (refine Below.trans ?_ (Below.mono ‹Below _ _ _› (by first | omega | (simp; omega) | (simp; done))))))⟩
          · have t11 : (m == 11) = false := by simpa using h11
            have HT : Hid (monthN ⟨e, b, u⟩ y m = 31) := (by simp [monthN, h2, h4, h6, h9, h11] : monthN ⟨e, b, u⟩ y m = _)
            clear h2 h4 h6 h9 h11
            go_enter Tryz.func91, Tryz.ntmps91
            go_wp2
            go_ret
            exact ⟨ret_int HT.out.symm, by (repeat (first | exact Below.refl _ _ | assumption | (refine Below.alloc ?_ (by first | omega | (simp; omega) | (simp; done)) _) | (refine Below.setCell ?_ (by first | omega | (simp; omega) | (simp; done)) _) | (refine Below.drew ?_) | (refine belowN ?_ _) | (refine Below.trans ?_ (Below.mono ‹Below _ _ _› (by first | omega | (simp; omega) | (simp; done))))))⟩
theorem ryear_any (e b u y : Int) (w : World) (ok : SolOk ⟨e, b, u⟩) (y0 : 0 ≤ y) (y1 : y ≤ 1000000) : Calls Tryz.prog 90 #[.agg #[.int .i64 e, .int .i64 b, .int .i64 u], .int .i64 y] w fun en w' => en = .returned (.int .i64 (yearN ⟨e, b, u⟩ y)) ∧ Below w.heap.size w w' := by
  cases hl : longB ⟨e, b, u⟩ y with
  | true =>
    have H1 := Lib.hid (fun W => rlong_val hl ok y0 y1 W)
    have HT : Hid (yearN ⟨e, b, u⟩ y = 366) := (by simp [yearN, hl] : yearN ⟨e, b, u⟩ y = _)
    clear hl ok
    go_enter Tryz.func90, Tryz.ntmps90
    go_wp2_with (go_at_call 102; (with_reducible refine (H1.out _).mono ?_); rintro _ V1 ⟨rfl, hb1⟩)
    go_ret
    exact ⟨ret_int HT.out.symm, bl2 (by (repeat (first | exact Below.refl _ _ | assumption | (refine Below.alloc ?_ (by first | omega | (simp; omega) | (simp; done)) _) | (refine Below.setCell ?_ (by first | omega | (simp; omega) | (simp; done)) _) | (refine Below.drew ?_) | (refine belowN ?_ _) | (refine Below.trans ?_ (Below.mono ‹Below _ _ _› (by first | omega | (simp; omega) | (simp; done))))))) hb1⟩
  | false =>
    have H1 := Lib.hid (fun W => rlong_val hl ok y0 y1 W)
    have HT : Hid (yearN ⟨e, b, u⟩ y = 365) := (by simp [yearN, hl] : yearN ⟨e, b, u⟩ y = _)
    clear hl ok
    go_enter Tryz.func90, Tryz.ntmps90
    go_wp2_with (go_at_call 102; (with_reducible refine (H1.out _).mono ?_); rintro _ V1 ⟨rfl, hb1⟩)
    go_ret
    exact ⟨ret_int HT.out.symm, bl2 (by (repeat (first | exact Below.refl _ _ | assumption | (refine Below.alloc ?_ (by first | omega | (simp; omega) | (simp; done)) _) | (refine Below.setCell ?_ (by first | omega | (simp; omega) | (simp; done)) _) | (refine Below.drew ?_) | (refine belowN ?_ _) | (refine Below.trans ?_ (Below.mono ‹Below _ _ _› (by first | omega | (simp; omega) | (simp; done))))))) hb1⟩
end Go.Proofs.YtfbnllmmoaialaaGreat

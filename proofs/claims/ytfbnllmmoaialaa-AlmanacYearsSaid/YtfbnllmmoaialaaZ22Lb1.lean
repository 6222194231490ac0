/- almanac: the law AlmanacYears, a part. -/
import Derived.Test.YtfbnllmmoaialaaZ21Pd
namespace Go.Proofs.Ytfbnllmmoaialaa
open Go.RowKit

set_option maxRecDepth 100000 in
set_option maxHeartbeats 8000000 in
theorem lwyears_t (e b u d p f m y s l bY : Int) (w : World) (h0 : 0 ≤ bY) (h1 : bY < 65536) (hs : solB ⟨e, b, u⟩ = true) (hv0 : longB ⟨e, b, u⟩ (bY % 2000) = true) :
    Calls Try.prog 14 #[.agg #[.int .i64 e, .int .i64 b, .int .i64 u], .agg #[.int .i64 d, .int .i64 p, .int .i64 f, .int .i64 m, .int .i64 y, .int .i64 s, .int .i64 l], .int .u16 bY] w fun en w' => en = .returned (.bool true) ∧ Below w.heap.size w w' := by
  obtain ⟨yr, hyr⟩ : ∃ d, d = bY % 2000 := ⟨_, rfl⟩
  have d0 : 0 ≤ yr := by omega
  have d1 : yr ≤ 1999 := by omega
  have w1d : IntKind.i64.wrap (yr + 1) = yr + 1 := IntWalk.i64_in _ ⟨by omega, by omega⟩
  have HD := Lib.hid hyr
  have hyr0 := HD
  clear hyr
  rw [← hyr0.out] at hv0
  have ok := solB_iff.1 hs
  obtain ⟨f1, f2, f3⟩ := year_first ok d0 (by omega : yr ≤ 2000)
  obtain ⟨f4, f5, f6⟩ := year_first ok (show 0 ≤ yr + 1 by omega) (by omega)
  have f7 := feb29 ok d0 (by omega : yr ≤ 2000)
  have f8 := begI_step ok d0
  have HLL := Lib.hid (lwLong_eq ok (y := yr))
  unfold yearN at f8
  obtain ⟨v, hv⟩ : ∃ v, v = longB ⟨e, b, u⟩ yr := ⟨_, rfl⟩
  rw [← hv] at f7 f8 HLL hv0
  have HV0 := Lib.hid hv0
  clear hv0
  obtain ⟨B1, hB1⟩ : ∃ x, x = begI ⟨e, b, u⟩ yr := ⟨_, rfl⟩
  obtain ⟨B2, hB2⟩ : ∃ x, x = begI ⟨e, b, u⟩ (yr + 1) := ⟨_, rfl⟩
  rw [← hB1] at f1 f2 f3 f7 f8
  rw [← hB2] at f4 f5 f6 f8
  have HS1 := Lib.hid (fun W => solarDayV (by omega) f1 W)
  have HS2 := Lib.hid (fun W => solarDayV (by omega) f4 W)
  have e0 := ok.e; have eb := ok.b; have eu := ok.u
  simp only at e0 eb eu
  have wy59 : IntKind.i64.wrap (B1 + 59) = B1 + 59 := IntWalk.i64_in _ ⟨by omega, by omega⟩
  have wsub : IntKind.i64.wrap (B2 - B1) = B2 - B1 := IntWalk.i64_in _ ⟨by omega, by omega⟩
  have HV := Lib.hid hv; have F7 := Lib.hid f7; have F8 := Lib.hid f8
  clear f1 f4 hB1 hB2 hv f7 f8 ok hs
  go_enter Try.func14, Try.ntmps14
  go_upto_region 2 with fail
  rw [← HD.out]
  obtain ⟨q3, hq3⟩ : ∃ n, n = w.heap.size := ⟨_, rfl⟩
  rw [← hq3]
  refine gen_w (fun W => (Below w.heap.size w W ∧ Blk W q3 #[.int .i64 e, .int .i64 b, .int .i64 u] 24 ∧ Blk W (q3 + 1) #[.int .i64 d, .int .i64 p, .int .i64 f, .int .i64 m, .int .i64 y, .int .i64 s, .int .i64 l] 26)) ⟨by (repeat (first | exact Below.refl _ _ | assumption | (refine Below.alloc ?_ (by first | omega | (simp; omega) | (simp; done)) _) | (refine Below.setCell ?_ (by first | omega | (simp; omega) | (simp; done)) _) | (refine Below.drew ?_) | (refine belowN ?_ _) | (refine Below.trans ?_ (Below.mono ‹Below _ _ _› (by first | omega | (simp; omega) | (simp; done)))))), (Blk.at_ hq3).alloc _, Blk.at_ (by simp [hq3])⟩ ?_
  clear hq3
  rintro V ⟨hw, g3, g4⟩
  (have c0 := g3.cell 0; have c1 := g3.cell 1; have c2 := g3.cell 2; simp at c0 c1 c2)
  go_upto_region 5 with (first | (go_at_call 42; (with_reducible refine (HS1.out _).mono ?_); rintro _ W1 ⟨rfl, hb1⟩; have hw := bl2 hw hb1; have g3 := g3.below hb1 g3.lt; have g4 := g4.below hb1 g4.lt; (have c0 := g3.cell 0; have c1 := g3.cell 1; have c2 := g3.cell 2; simp at c0 c1 c2)) | (go_at_call 42; (with_reducible refine (HS2.out _).mono ?_); rintro _ W2 ⟨rfl, hb2⟩; have hw := bl2 hw hb2; have g3 := g3.below hb2 g3.lt; have g4 := g4.below hb2 g4.lt; (have c0 := g3.cell 0; have c1 := g3.cell 1; have c2 := g3.cell 2; simp at c0 c1 c2)))
  go_cut [12] (fun s12 wx => s12 = .bool v ∧ wx = W2)
  case first =>
    have hl := HLL.out
    clear HLL HS1 HS2 HV F7 F8 HD
    unfold lwLong at hl
    simp only at hl
    by_cases k1 : 0 < e
    · have n1 : (e == 0) = false := by simp; omega
      have r1 := IntWalk.i64_in (yr % e) ⟨by have := Int.emod_nonneg yr (show e ≠ 0 by omega); omega, by have := Int.emod_lt_of_pos yr k1; omega⟩
      cases j1 : (yr % e == 0) with
      | false =>
        simp [k1, j1] at hl
        subst hl
        go_wp2_with fail
        go_meet
        exact ⟨rfl, rfl⟩
      | true =>
        by_cases k2 : b ≤ 0
        · simp [k1, j1, k2] at hl
          subst hl
          go_wp2_with fail
          go_meet
          exact ⟨rfl, rfl⟩
        · have n2 : (b == 0) = false := by simp; omega
          have r2 := IntWalk.i64_in (yr % b) ⟨by have := Int.emod_nonneg yr (show b ≠ 0 by omega); omega, by have := Int.emod_lt_of_pos yr (show 0 < b by omega); omega⟩
          cases j2 : (yr % b != 0) with
          | true =>
            simp [k1, j1, k2, j2] at hl
            subst hl
            go_wp2_with fail
            go_meet
            exact ⟨rfl, rfl⟩
          | false =>
            by_cases k3 : 0 < u
            · have n3 : (u == 0) = false := by simp; omega
              have r3 := IntWalk.i64_in (yr % u) ⟨by have := Int.emod_nonneg yr (show u ≠ 0 by omega); omega, by have := Int.emod_lt_of_pos yr k3; omega⟩
              cases j3 : (yr % u == 0) with
              | true =>
                simp [k1, j1, k2, j2, k3, j3] at hl
                subst hl
                go_wp2_with fail
                go_meet
                exact ⟨rfl, rfl⟩
              | false =>
                simp [k1, j1, k2, j2, k3, j3] at hl
                subst hl
                go_wp2_with fail
                go_meet
                exact ⟨rfl, rfl⟩
            · simp [k1, j1, k2, j2, k3] at hl
              subst hl
              go_wp2_with fail
              go_meet
              exact ⟨rfl, rfl⟩
    · simp [k1] at hl
      subst hl
      go_wp2_with fail
      go_meet
      exact ⟨rfl, rfl⟩
  have F7' := F7.out
  have hv0 := HV0.out
  subst hv0
  simp only [if_pos] at F7'
  have HS3 := Lib.hid (fun W => solarDayV (by omega) F7' W)
  go_upto_region 7 with (go_at_call 42; (with_reducible refine (HS3.out _).mono ?_); rintro _ W3 ⟨rfl, hb3⟩; have hw := bl2 hw hb3; have g3 := g3.below hb3 g3.lt; have g4 := g4.below hb3 g4.lt; (have c0 := g3.cell 0; have c1 := g3.cell 1; have c2 := g3.cell 2; simp at c0 c1 c2))
  have f8 := F8.out
  simp at f8
  have e1 : B2 - B1 = 366 := by omega
  go_upto_region 11 with fail
  clear HS3 f8 e1 F7' wsub wy59
  cases hl : lunB ⟨d, p, f, m, y, s, l⟩ with
  | false =>
    have HM1 := Lib.hid (fun W => lunarDayV (n := 0) (g := 2) (y0 := yr) (m0 := 1) (d0 := 1) (k0 := false) (by simp [ldayR, hl] : ldayR ⟨d, p, f, m, y, s, l⟩ _ = _) W)
    have HM2 := Lib.hid (fun W => lunarDayV (n := 0) (g := 2) (y0 := yr + 1) (m0 := 1) (d0 := 1) (k0 := false) (by simp [ldayR, hl] : ldayR ⟨d, p, f, m, y, s, l⟩ _ = _) W)
    clear hl
    (have c0 := g4.cell 0; have c1 := g4.cell 1; have c2 := g4.cell 2; have c3 := g4.cell 3; have c4 := g4.cell 4; have c5 := g4.cell 5; have c6 := g4.cell 6; simp at c0 c1 c2 c3 c4 c5 c6)
    go_upto_region 14 with (first | (go_at_call 47; (with_reducible refine (HM1.out _).mono ?_); rintro _ W4 ⟨rfl, hb4⟩; have hw := bl2 hw hb4; have g4 := g4.below hb4 g4.lt; (have c0 := g4.cell 0; have c1 := g4.cell 1; have c2 := g4.cell 2; have c3 := g4.cell 3; have c4 := g4.cell 4; have c5 := g4.cell 5; have c6 := g4.cell 6; simp at c0 c1 c2 c3 c4 c5 c6)) | (go_at_call 47; (with_reducible refine (HM2.out _).mono ?_); rintro _ W4 ⟨rfl, hb4⟩; have hw := bl2 hw hb4; have g4 := g4.below hb4 g4.lt; (have c0 := g4.cell 0; have c1 := g4.cell 1; have c2 := g4.cell 2; have c3 := g4.cell 3; have c4 := g4.cell 4; have c5 := g4.cell 5; have c6 := g4.cell 6; simp at c0 c1 c2 c3 c4 c5 c6)))
    go_wp2_with (go_at_call 17; refine (known_any _).mono ?_; rintro _ WK ⟨rfl, hbK⟩; have hw := bl2 hw hbK)
    refine bodyPost_ret (v := .bool true) (by simp [results, Try.results14, go_sem]) rfl ?_
    exact ⟨rfl, hw⟩
  | true =>
    have lok := lunB_iff.1 hl
    obtain ⟨a1, a2⟩ := yr_start lok d0 (by omega : yr ≤ 2000)
    obtain ⟨b1, b2, b3⟩ := yr_next lok (show 0 ≤ yr + 1 by omega) (by omega)
    have YE := Lib.hid (yr_end lok (y := yr))
    have YR := Lib.hid (fun mo m0 m1 => yr_round lok (y := yr) (m := mo) d0 (by omega) m0 m1)
    obtain ⟨B, hB⟩ : ∃ x, x = BI ⟨d, p, f, m, y, s, l⟩ (FI ⟨d, p, f, m, y, s, l⟩ (yr + 1)) := ⟨_, rfl⟩
    rw [← hB] at b1 b2 b3 YE YR
    obtain ⟨A, hA⟩ : ∃ x, x = lastC ⟨d, p, f, m, y, s, l⟩ yr 0 := ⟨_, rfl⟩
    rw [← hA] at a1
    have HA : Hid (A = lastC ⟨d, p, f, m, y, s, l⟩ yr (befM ⟨d, p, f, m, y, s, l⟩ yr 1)) := (by rw [a2, hA] : A = lastC _ yr _)
    have HZ := Lib.hid a2.symm
    have HM1 := Lib.hid (fun W => lunarDayV a1 W)
    have HM2 := Lib.hid (fun W => lunarDayV b1 W)
    clear hl lok hA hB a1 a2 b1
    (have c0 := g4.cell 0; have c1 := g4.cell 1; have c2 := g4.cell 2; have c3 := g4.cell 3; have c4 := g4.cell 4; have c5 := g4.cell 5; have c6 := g4.cell 6; simp at c0 c1 c2 c3 c4 c5 c6)
    go_upto_region 19 with (first | (go_at_call 47; (with_reducible refine (HM1.out _).mono ?_); rintro _ W4 ⟨rfl, hb4⟩; have hw := bl2 hw hb4; have g4 := g4.below hb4 g4.lt; (have c0 := g4.cell 0; have c1 := g4.cell 1; have c2 := g4.cell 2; have c3 := g4.cell 3; have c4 := g4.cell 4; have c5 := g4.cell 5; have c6 := g4.cell 6; simp at c0 c1 c2 c3 c4 c5 c6)) | (go_at_call 47; (with_reducible refine (HM2.out _).mono ?_); rintro _ W4 ⟨rfl, hb4⟩; have hw := bl2 hw hb4; have g4 := g4.below hb4 g4.lt; (have c0 := g4.cell 0; have c1 := g4.cell 1; have c2 := g4.cell 2; have c3 := g4.cell 3; have c4 := g4.cell 4; have c5 := g4.cell 5; have c6 := g4.cell 6; simp at c0 c1 c2 c3 c4 c5 c6)))
    clear HM1 HM2
    go_loopw [15, 16, 17, 18, 19, 20] (fun s15 s16 s17 _ _ _ wr => YrOut ⟨d, p, f, m, y, s, l⟩ yr w (q3 + 1) #[.int .i64 d, .int .i64 p, .int .i64 f, .int .i64 m, .int .i64 y, .int .i64 s, .int .i64 l] 26 s15 s16 s17 wr) (fun _ _ s17 _ _ _ _ => (13 - intOf s17).toNat)
    case atStart => exact ⟨1, by omega, by omega, rfl, by rw [← HZ.out], by rw [← HA.out], hw, g4⟩
    case round =>
      unfold YrOut at hrel
      obtain ⟨mo, m0, m1, rfl, rfl, rfl, hw, g4⟩ := hrel
      clear HA HZ
      (have c0 := g4.cell 0; have c1 := g4.cell 1; have c2 := g4.cell 2; have c3 := g4.cell 3; have c4 := g4.cell 4; have c5 := g4.cell 5; have c6 := g4.cell 6; simp at c0 c1 c2 c3 c4 c5 c6)
      by_cases hmo : mo = 13
      · subst hmo
        obtain ⟨ye1, ye2, ye3⟩ := YE.out
        obtain ⟨c, hc⟩ : ∃ x, x = befM ⟨d, p, f, m, y, s, l⟩ yr 13 := ⟨_, rfl⟩
        rw [← hc] at ye1 ye2 ye3 ⊢
        obtain ⟨X, hX⟩ : ∃ x, x = lastC ⟨d, p, f, m, y, s, l⟩ yr c := ⟨_, rfl⟩
        rw [← hX] at ye2 ye3 ⊢
        clear YE YR hX hc
        have wx : IntKind.i64.wrap (B - X) = B - X := IntWalk.i64_in _ ⟨by omega, by omega⟩
        rcases ye1 with rfl | rfl
        · go_wp2_with (go_at_call 17; refine (known_any _).mono ?_; rintro _ WK ⟨rfl, hbK⟩; have hw := bl2 hw hbK)
          refine bodyPost_ret (v := .bool true) (by simp [results, Try.results14, go_sem]) rfl ?_
          exact ⟨rfl, hw⟩
        · go_wp2_with (go_at_call 17; refine (known_any _).mono ?_; rintro _ WK ⟨rfl, hbK⟩; have hw := bl2 hw hbK)
          refine bodyPost_ret (v := .bool true) (by simp [results, Try.results14, go_sem]) rfl ?_
          exact ⟨rfl, hw⟩
      · have n12 : mo ≤ 12 := by omega
        obtain ⟨c, X, Y, c', X', R⟩ := YR.out mo m0 n12
        rw [← R.hc, ← R.hX]
        have r0 := R.c0; have r1 := R.xy; have r2 := R.gap; have r3 := R.bd
        have n1 : ¬ Y < X := by omega
        have n2 : ¬ B < Y := by omega
        have wc : IntKind.i64.wrap (c + 1) = c + 1 := IntWalk.i64_in _ ⟨by omega, by omega⟩
        have wcc : IntKind.i64.wrap (c + 1 + 1) = c + 1 + 1 := IntWalk.i64_in _ ⟨by omega, by omega⟩
        have wm : IntKind.i64.wrap (mo + 1) = mo + 1 := IntWalk.i64_in _ ⟨by omega, by omega⟩
        have wx : IntKind.i64.wrap (Y - X) = Y - X := IntWalk.i64_in _ ⟨by omega, by omega⟩
        have HC' := Lib.hid R.hc'; have HX' := Lib.hid R.hX'
        have HR1 := Lib.hid (fun W => lunarDayV R.first W)
        have HRest := Lib.hid R.rest
        clear R YE YR
        go_upto_region 22 with fail
        go_loopw [15, 16, 18, 19, 20] (fun s15 s16 s18 _ _ wr => YrIn c X Y c' X' w (q3 + 1) #[.int .i64 d, .int .i64 p, .int .i64 f, .int .i64 m, .int .i64 y, .int .i64 s, .int .i64 l] 26 s15 s16 s18 wr) (fun _ _ s18 _ _ _ => (2 - intOf s18).toNat)
        case atStart => exact ⟨Or.inl ⟨rfl, rfl, rfl⟩, hw, g4⟩
        case round =>
          unfold YrIn at hrel
          obtain ⟨hrel, hw, g4⟩ := hrel
          (have c0 := g4.cell 0; have c1 := g4.cell 1; have c2 := g4.cell 2; have c3 := g4.cell 3; have c4 := g4.cell 4; have c5 := g4.cell 5; have c6 := g4.cell 6; simp at c0 c1 c2 c3 c4 c5 c6)
          rcases hrel with ⟨rfl, rfl, rfl⟩ | ⟨rfl, rfl, rfl⟩ | ⟨rfl, rfl, rfl⟩
          · by_cases hc : 0 < c
            · have n3 : ¬ (Y - X < 27) := by omega
              have n4 : ¬ (31 < Y - X) := by omega
              go_wp2_with (go_at_call 47; (with_reducible refine (HR1.out _).mono ?_); rintro _ W4 ⟨rfl, hb4⟩; have hw := bl2 hw hb4; have g4 := g4.below hb4 g4.lt; (have c0 := g4.cell 0; have c1 := g4.cell 1; have c2 := g4.cell 2; have c3 := g4.cell 3; have c4 := g4.cell 4; have c5 := g4.cell 5; have c6 := g4.cell 6; simp at c0 c1 c2 c3 c4 c5 c6))
              go_roundw
              case rel => exact ⟨Or.inr (Or.inl ⟨rfl, rfl, rfl⟩), hw, g4⟩
              case measure => simp [intOf]
            · go_wp2_with (go_at_call 47; (with_reducible refine (HR1.out _).mono ?_); rintro _ W4 ⟨rfl, hb4⟩; have hw := bl2 hw hb4; have g4 := g4.below hb4 g4.lt; (have c0 := g4.cell 0; have c1 := g4.cell 1; have c2 := g4.cell 2; have c3 := g4.cell 3; have c4 := g4.cell 4; have c5 := g4.cell 5; have c6 := g4.cell 6; simp at c0 c1 c2 c3 c4 c5 c6))
              go_roundw
              case rel => exact ⟨Or.inr (Or.inl ⟨rfl, rfl, rfl⟩), hw, g4⟩
              case measure => simp [intOf]
          · rcases HRest.out with ⟨ml, h1, h2, h3, h4, h5, h6⟩ | ⟨h1, h2, h3⟩
            · have HR1 := Lib.hid (fun W => lunarDayV h1 W)
              have e1 : (mo != l) = false := by simpa using ml
              have n3 : ¬ (X' - Y < 27) := by omega
              have n4 : ¬ (31 < X' - Y) := by omega
              have n5 : ¬ X' < Y := by omega
              have n6 : ¬ B < X' := by omega
              have n7 : 0 < c + 1 := by omega
              have wz : IntKind.i64.wrap (X' - Y) = X' - Y := IntWalk.i64_in _ ⟨by omega, by omega⟩
              clear h1 HRest ml
              go_wp2_with (go_at_call 47; (with_reducible refine (HR1.out _).mono ?_); rintro _ W4 ⟨rfl, hb4⟩; have hw := bl2 hw hb4; have g4 := g4.below hb4 g4.lt; (have c0 := g4.cell 0; have c1 := g4.cell 1; have c2 := g4.cell 2; have c3 := g4.cell 3; have c4 := g4.cell 4; have c5 := g4.cell 5; have c6 := g4.cell 6; simp at c0 c1 c2 c3 c4 c5 c6))
              go_roundw
              case rel => exact ⟨Or.inr (Or.inr ⟨rfl, by rw [h2, show c + 1 + 1 = c + 2 by omega], rfl⟩), hw, g4⟩
              case measure => simp [intOf]
            · have HR1 := Lib.hid (fun W => lunarDayV h1 W)
              clear h1 HRest
              go_wp2_with (go_at_call 47; (with_reducible refine (HR1.out _).mono ?_); rintro _ W4 ⟨rfl, hb4⟩; have hw := bl2 hw hb4; have g4 := g4.below hb4 g4.lt; (have c0 := g4.cell 0; have c1 := g4.cell 1; have c2 := g4.cell 2; have c3 := g4.cell 3; have c4 := g4.cell 4; have c5 := g4.cell 5; have c6 := g4.cell 6; simp at c0 c1 c2 c3 c4 c5 c6))
              go_roundw
              case rel => exact ⟨Or.inr (Or.inr ⟨rfl, by rw [h2], by rw [h3]⟩), hw, g4⟩
              case measure => simp [intOf]
          · go_wp2_with fail
            go_roundw
            case rel => exact ⟨mo + 1, by omega, by omega, rfl, by rw [HC'.out], by rw [HX'.out, HC'.out], hw, g4⟩
            case measure => simp [intOf]; omega
end Go.Proofs.Ytfbnllmmoaialaa
namespace Go.Proofs.Ytfbnllmmoaialaa
open Go.RowKit

set_option maxRecDepth 100000 in
set_option maxHeartbeats 8000000 in
theorem lwyears_f (e b u d p f m y s l bY : Int) (w : World) (h0 : 0 ≤ bY) (h1 : bY < 65536) (hs : solB ⟨e, b, u⟩ = true) (hv0 : longB ⟨e, b, u⟩ (bY % 2000) = false) :
    Calls Try.prog 14 #[.agg #[.int .i64 e, .int .i64 b, .int .i64 u], .agg #[.int .i64 d, .int .i64 p, .int .i64 f, .int .i64 m, .int .i64 y, .int .i64 s, .int .i64 l], .int .u16 bY] w fun en w' => en = .returned (.bool true) ∧ Below w.heap.size w w' := by
  obtain ⟨yr, hyr⟩ : ∃ d, d = bY % 2000 := ⟨_, rfl⟩
  have d0 : 0 ≤ yr := by omega
  have d1 : yr ≤ 1999 := by omega
  have w1d : IntKind.i64.wrap (yr + 1) = yr + 1 := IntWalk.i64_in _ ⟨by omega, by omega⟩
  have HD := Lib.hid hyr
  have hyr0 := HD
  clear hyr
  rw [← hyr0.out] at hv0
  have ok := solB_iff.1 hs
  obtain ⟨f1, f2, f3⟩ := year_first ok d0 (by omega : yr ≤ 2000)
  obtain ⟨f4, f5, f6⟩ := year_first ok (show 0 ≤ yr + 1 by omega) (by omega)
  have f7 := feb29 ok d0 (by omega : yr ≤ 2000)
  have f8 := begI_step ok d0
  have HLL := Lib.hid (lwLong_eq ok (y := yr))
  unfold yearN at f8
  obtain ⟨v, hv⟩ : ∃ v, v = longB ⟨e, b, u⟩ yr := ⟨_, rfl⟩
  rw [← hv] at f7 f8 HLL hv0
  have HV0 := Lib.hid hv0
  clear hv0
  obtain ⟨B1, hB1⟩ : ∃ x, x = begI ⟨e, b, u⟩ yr := ⟨_, rfl⟩
  obtain ⟨B2, hB2⟩ : ∃ x, x = begI ⟨e, b, u⟩ (yr + 1) := ⟨_, rfl⟩
  rw [← hB1] at f1 f2 f3 f7 f8
  rw [← hB2] at f4 f5 f6 f8
  have HS1 := Lib.hid (fun W => solarDayV (by omega) f1 W)
  have HS2 := Lib.hid (fun W => solarDayV (by omega) f4 W)
  have e0 := ok.e; have eb := ok.b; have eu := ok.u
  simp only at e0 eb eu
  have wy59 : IntKind.i64.wrap (B1 + 59) = B1 + 59 := IntWalk.i64_in _ ⟨by omega, by omega⟩
  have wsub : IntKind.i64.wrap (B2 - B1) = B2 - B1 := IntWalk.i64_in _ ⟨by omega, by omega⟩
  have HV := Lib.hid hv; have F7 := Lib.hid f7; have F8 := Lib.hid f8
  clear f1 f4 hB1 hB2 hv f7 f8 ok hs
  go_enter Try.func14, Try.ntmps14
  go_upto_region 2 with fail
  rw [← HD.out]
  obtain ⟨q3, hq3⟩ : ∃ n, n = w.heap.size := ⟨_, rfl⟩
  rw [← hq3]
  refine gen_w (fun W => (Below w.heap.size w W ∧ Blk W q3 #[.int .i64 e, .int .i64 b, .int .i64 u] 24 ∧ Blk W (q3 + 1) #[.int .i64 d, .int .i64 p, .int .i64 f, .int .i64 m, .int .i64 y, .int .i64 s, .int .i64 l] 26)) ⟨by (repeat (first | exact Below.refl _ _ | assumption | (refine Below.alloc ?_ (by first | omega | (simp; omega) | (simp; done)) _) | (refine Below.setCell ?_ (by first | omega | (simp; omega) | (simp; done)) _) | (refine Below.drew ?_) | (refine belowN ?_ _) | (refine Below.trans ?_ (Below.mono ‹Below _ _ _› (by first | omega | (simp; omega) | (simp; done)))))), (Blk.at_ hq3).alloc _, Blk.at_ (by simp [hq3])⟩ ?_
  clear hq3
  rintro V ⟨hw, g3, g4⟩
  (have c0 := g3.cell 0; have c1 := g3.cell 1; have c2 := g3.cell 2; simp at c0 c1 c2)
  go_upto_region 5 with (first | (go_at_call 42; (with_reducible refine (HS1.out _).mono ?_); rintro _ W1 ⟨rfl, hb1⟩; have hw := bl2 hw hb1; have g3 := g3.below hb1 g3.lt; have g4 := g4.below hb1 g4.lt; (have c0 := g3.cell 0; have c1 := g3.cell 1; have c2 := g3.cell 2; simp at c0 c1 c2)) | (go_at_call 42; (with_reducible refine (HS2.out _).mono ?_); rintro _ W2 ⟨rfl, hb2⟩; have hw := bl2 hw hb2; have g3 := g3.below hb2 g3.lt; have g4 := g4.below hb2 g4.lt; (have c0 := g3.cell 0; have c1 := g3.cell 1; have c2 := g3.cell 2; simp at c0 c1 c2)))
  go_cut [12] (fun s12 wx => s12 = .bool v ∧ wx = W2)
  case first =>
    have hl := HLL.out
    clear HLL HS1 HS2 HV F7 F8 HD
    unfold lwLong at hl
    simp only at hl
    by_cases k1 : 0 < e
    · have n1 : (e == 0) = false := by simp; omega
      have r1 := IntWalk.i64_in (yr % e) ⟨by have := Int.emod_nonneg yr (show e ≠ 0 by omega); omega, by have := Int.emod_lt_of_pos yr k1; omega⟩
      cases j1 : (yr % e == 0) with
      | false =>
        simp [k1, j1] at hl
        subst hl
        go_wp2_with fail
        go_meet
        exact ⟨rfl, rfl⟩
      | true =>
        by_cases k2 : b ≤ 0
        · simp [k1, j1, k2] at hl
          subst hl
          go_wp2_with fail
          go_meet
          exact ⟨rfl, rfl⟩
        · have n2 : (b == 0) = false := by simp; omega
          have r2 := IntWalk.i64_in (yr % b) ⟨by have := Int.emod_nonneg yr (show b ≠ 0 by omega); omega, by have := Int.emod_lt_of_pos yr (show 0 < b by omega); omega⟩
          cases j2 : (yr % b != 0) with
          | true =>
            simp [k1, j1, k2, j2] at hl
            subst hl
            go_wp2_with fail
            go_meet
            exact ⟨rfl, rfl⟩
          | false =>
            by_cases k3 : 0 < u
            · have n3 : (u == 0) = false := by simp; omega
              have r3 := IntWalk.i64_in (yr % u) ⟨by have := Int.emod_nonneg yr (show u ≠ 0 by omega); omega, by have := Int.emod_lt_of_pos yr k3; omega⟩
              cases j3 : (yr % u == 0) with
              | true =>
                simp [k1, j1, k2, j2, k3, j3] at hl
                subst hl
                go_wp2_with fail
                go_meet
                exact ⟨rfl, rfl⟩
              | false =>
                simp [k1, j1, k2, j2, k3, j3] at hl
                subst hl
                go_wp2_with fail
                go_meet
                exact ⟨rfl, rfl⟩
            · simp [k1, j1, k2, j2, k3] at hl
              subst hl
              go_wp2_with fail
              go_meet
              exact ⟨rfl, rfl⟩
    · simp [k1] at hl
      subst hl
      go_wp2_with fail
      go_meet
      exact ⟨rfl, rfl⟩
  have F7' := F7.out
  have hv0 := HV0.out
  subst hv0
  simp at F7'
  have HS3 := Lib.hid (fun W => solarDayV (by omega) F7' W)
  go_upto_region 7 with (go_at_call 42; (with_reducible refine (HS3.out _).mono ?_); rintro _ W3 ⟨rfl, hb3⟩; have hw := bl2 hw hb3; have g3 := g3.below hb3 g3.lt; have g4 := g4.below hb3 g4.lt; (have c0 := g3.cell 0; have c1 := g3.cell 1; have c2 := g3.cell 2; simp at c0 c1 c2))
  have f8 := F8.out
  simp at f8
  have e1 : B2 - B1 = 365 := by omega
  go_upto_region 11 with fail
  clear HS3 f8 e1 F7' wsub wy59
  cases hl : lunB ⟨d, p, f, m, y, s, l⟩ with
  | false =>
    have HM1 := Lib.hid (fun W => lunarDayV (n := 0) (g := 2) (y0 := yr) (m0 := 1) (d0 := 1) (k0 := false) (by simp [ldayR, hl] : ldayR ⟨d, p, f, m, y, s, l⟩ _ = _) W)
    have HM2 := Lib.hid (fun W => lunarDayV (n := 0) (g := 2) (y0 := yr + 1) (m0 := 1) (d0 := 1) (k0 := false) (by simp [ldayR, hl] : ldayR ⟨d, p, f, m, y, s, l⟩ _ = _) W)
    clear hl
    (have c0 := g4.cell 0; have c1 := g4.cell 1; have c2 := g4.cell 2; have c3 := g4.cell 3; have c4 := g4.cell 4; have c5 := g4.cell 5; have c6 := g4.cell 6; simp at c0 c1 c2 c3 c4 c5 c6)
    go_upto_region 14 with (first | (go_at_call 47; (with_reducible refine (HM1.out _).mono ?_); rintro _ W4 ⟨rfl, hb4⟩; have hw := bl2 hw hb4; have g4 := g4.below hb4 g4.lt; (have c0 := g4.cell 0; have c1 := g4.cell 1; have c2 := g4.cell 2; have c3 := g4.cell 3; have c4 := g4.cell 4; have c5 := g4.cell 5; have c6 := g4.cell 6; simp at c0 c1 c2 c3 c4 c5 c6)) | (go_at_call 47; (with_reducible refine (HM2.out _).mono ?_); rintro _ W4 ⟨rfl, hb4⟩; have hw := bl2 hw hb4; have g4 := g4.below hb4 g4.lt; (have c0 := g4.cell 0; have c1 := g4.cell 1; have c2 := g4.cell 2; have c3 := g4.cell 3; have c4 := g4.cell 4; have c5 := g4.cell 5; have c6 := g4.cell 6; simp at c0 c1 c2 c3 c4 c5 c6)))
    go_wp2_with (go_at_call 17; refine (known_any _).mono ?_; rintro _ WK ⟨rfl, hbK⟩; have hw := bl2 hw hbK)
    refine bodyPost_ret (v := .bool true) (by simp [results, Try.results14, go_sem]) rfl ?_
    exact ⟨rfl, hw⟩
  | true =>
    have lok := lunB_iff.1 hl
    obtain ⟨a1, a2⟩ := yr_start lok d0 (by omega : yr ≤ 2000)
    obtain ⟨b1, b2, b3⟩ := yr_next lok (show 0 ≤ yr + 1 by omega) (by omega)
    have YE := Lib.hid (yr_end lok (y := yr))
    have YR := Lib.hid (fun mo m0 m1 => yr_round lok (y := yr) (m := mo) d0 (by omega) m0 m1)
    obtain ⟨B, hB⟩ : ∃ x, x = BI ⟨d, p, f, m, y, s, l⟩ (FI ⟨d, p, f, m, y, s, l⟩ (yr + 1)) := ⟨_, rfl⟩
    rw [← hB] at b1 b2 b3 YE YR
    obtain ⟨A, hA⟩ : ∃ x, x = lastC ⟨d, p, f, m, y, s, l⟩ yr 0 := ⟨_, rfl⟩
    rw [← hA] at a1
    have HA : Hid (A = lastC ⟨d, p, f, m, y, s, l⟩ yr (befM ⟨d, p, f, m, y, s, l⟩ yr 1)) := (by rw [a2, hA] : A = lastC _ yr _)
    have HZ := Lib.hid a2.symm
    have HM1 := Lib.hid (fun W => lunarDayV a1 W)
    have HM2 := Lib.hid (fun W => lunarDayV b1 W)
    clear hl lok hA hB a1 a2 b1
    (have c0 := g4.cell 0; have c1 := g4.cell 1; have c2 := g4.cell 2; have c3 := g4.cell 3; have c4 := g4.cell 4; have c5 := g4.cell 5; have c6 := g4.cell 6; simp at c0 c1 c2 c3 c4 c5 c6)
    go_upto_region 19 with (first | (go_at_call 47; (with_reducible refine (HM1.out _).mono ?_); rintro _ W4 ⟨rfl, hb4⟩; have hw := bl2 hw hb4; have g4 := g4.below hb4 g4.lt; (have c0 := g4.cell 0; have c1 := g4.cell 1; have c2 := g4.cell 2; have c3 := g4.cell 3; have c4 := g4.cell 4; have c5 := g4.cell 5; have c6 := g4.cell 6; simp at c0 c1 c2 c3 c4 c5 c6)) | (go_at_call 47; (with_reducible refine (HM2.out _).mono ?_); rintro _ W4 ⟨rfl, hb4⟩; have hw := bl2 hw hb4; have g4 := g4.below hb4 g4.lt; (have c0 := g4.cell 0; have c1 := g4.cell 1; have c2 := g4.cell 2; have c3 := g4.cell 3; have c4 := g4.cell 4; have c5 := g4.cell 5; have c6 := g4.cell 6; simp at c0 c1 c2 c3 c4 c5 c6)))
    clear HM1 HM2
    go_loopw [15, 16, 17, 18, 19, 20] (fun s15 s16 s17 _ _ _ wr => YrOut ⟨d, p, f, m, y, s, l⟩ yr w (q3 + 1) #[.int .i64 d, .int .i64 p, .int .i64 f, .int .i64 m, .int .i64 y, .int .i64 s, .int .i64 l] 26 s15 s16 s17 wr) (fun _ _ s17 _ _ _ _ => (13 - intOf s17).toNat)
    case atStart => exact ⟨1, by omega, by omega, rfl, by rw [← HZ.out], by rw [← HA.out], hw, g4⟩
    case round =>
      unfold YrOut at hrel
      obtain ⟨mo, m0, m1, rfl, rfl, rfl, hw, g4⟩ := hrel
      clear HA HZ
      (have c0 := g4.cell 0; have c1 := g4.cell 1; have c2 := g4.cell 2; have c3 := g4.cell 3; have c4 := g4.cell 4; have c5 := g4.cell 5; have c6 := g4.cell 6; simp at c0 c1 c2 c3 c4 c5 c6)
      by_cases hmo : mo = 13
      · subst hmo
        obtain ⟨ye1, ye2, ye3⟩ := YE.out
        obtain ⟨c, hc⟩ : ∃ x, x = befM ⟨d, p, f, m, y, s, l⟩ yr 13 := ⟨_, rfl⟩
        rw [← hc] at ye1 ye2 ye3 ⊢
        obtain ⟨X, hX⟩ : ∃ x, x = lastC ⟨d, p, f, m, y, s, l⟩ yr c := ⟨_, rfl⟩
        rw [← hX] at ye2 ye3 ⊢
        clear YE YR hX hc
        have wx : IntKind.i64.wrap (B - X) = B - X := IntWalk.i64_in _ ⟨by omega, by omega⟩
        rcases ye1 with rfl | rfl
        · go_wp2_with (go_at_call 17; refine (known_any _).mono ?_; rintro _ WK ⟨rfl, hbK⟩; have hw := bl2 hw hbK)
          refine bodyPost_ret (v := .bool true) (by simp [results, Try.results14, go_sem]) rfl ?_
          exact ⟨rfl, hw⟩
        · go_wp2_with (go_at_call 17; refine (known_any _).mono ?_; rintro _ WK ⟨rfl, hbK⟩; have hw := bl2 hw hbK)
          refine bodyPost_ret (v := .bool true) (by simp [results, Try.results14, go_sem]) rfl ?_
          exact ⟨rfl, hw⟩
      · have n12 : mo ≤ 12 := by omega
        obtain ⟨c, X, Y, c', X', R⟩ := YR.out mo m0 n12
        rw [← R.hc, ← R.hX]
        have r0 := R.c0; have r1 := R.xy; have r2 := R.gap; have r3 := R.bd
        have n1 : ¬ Y < X := by omega
        have n2 : ¬ B < Y := by omega
        have wc : IntKind.i64.wrap (c + 1) = c + 1 := IntWalk.i64_in _ ⟨by omega, by omega⟩
        have wcc : IntKind.i64.wrap (c + 1 + 1) = c + 1 + 1 := IntWalk.i64_in _ ⟨by omega, by omega⟩
        have wm : IntKind.i64.wrap (mo + 1) = mo + 1 := IntWalk.i64_in _ ⟨by omega, by omega⟩
        have wx : IntKind.i64.wrap (Y - X) = Y - X := IntWalk.i64_in _ ⟨by omega, by omega⟩
        have HC' := Lib.hid R.hc'; have HX' := Lib.hid R.hX'
        have HR1 := Lib.hid (fun W => lunarDayV R.first W)
        have HRest := Lib.hid R.rest
        clear R YE YR
        go_upto_region 22 with fail
        go_loopw [15, 16, 18, 19, 20] (fun s15 s16 s18 _ _ wr => YrIn c X Y c' X' w (q3 + 1) #[.int .i64 d, .int .i64 p, .int .i64 f, .int .i64 m, .int .i64 y, .int .i64 s, .int .i64 l] 26 s15 s16 s18 wr) (fun _ _ s18 _ _ _ => (2 - intOf s18).toNat)
        case atStart => exact ⟨Or.inl ⟨rfl, rfl, rfl⟩, hw, g4⟩
        case round =>
          unfold YrIn at hrel
          obtain ⟨hrel, hw, g4⟩ := hrel
          (have c0 := g4.cell 0; have c1 := g4.cell 1; have c2 := g4.cell 2; have c3 := g4.cell 3; have c4 := g4.cell 4; have c5 := g4.cell 5; have c6 := g4.cell 6; simp at c0 c1 c2 c3 c4 c5 c6)
          rcases hrel with ⟨rfl, rfl, rfl⟩ | ⟨rfl, rfl, rfl⟩ | ⟨rfl, rfl, rfl⟩
          · by_cases hc : 0 < c
            · have n3 : ¬ (Y - X < 27) := by omega
              have n4 : ¬ (31 < Y - X) := by omega
              go_wp2_with (go_at_call 47; (with_reducible refine (HR1.out _).mono ?_); rintro _ W4 ⟨rfl, hb4⟩; have hw := bl2 hw hb4; have g4 := g4.below hb4 g4.lt; (have c0 := g4.cell 0; have c1 := g4.cell 1; have c2 := g4.cell 2; have c3 := g4.cell 3; have c4 := g4.cell 4; have c5 := g4.cell 5; have c6 := g4.cell 6; simp at c0 c1 c2 c3 c4 c5 c6))
              go_roundw
              case rel => exact ⟨Or.inr (Or.inl ⟨rfl, rfl, rfl⟩), hw, g4⟩
              case measure => simp [intOf]
            · go_wp2_with (go_at_call 47; (with_reducible refine (HR1.out _).mono ?_); rintro _ W4 ⟨rfl, hb4⟩; have hw := bl2 hw hb4; have g4 := g4.below hb4 g4.lt; (have c0 := g4.cell 0; have c1 := g4.cell 1; have c2 := g4.cell 2; have c3 := g4.cell 3; have c4 := g4.cell 4; have c5 := g4.cell 5; have c6 := g4.cell 6; simp at c0 c1 c2 c3 c4 c5 c6))
              go_roundw
              case rel => exact ⟨Or.inr (Or.inl ⟨rfl, rfl, rfl⟩), hw, g4⟩
              case measure => simp [intOf]
          · rcases HRest.out with ⟨ml, h1, h2, h3, h4, h5, h6⟩ | ⟨h1, h2, h3⟩
            · have HR1 := Lib.hid (fun W => lunarDayV h1 W)
              have e1 : (mo != l) = false := by simpa using ml
              have n3 : ¬ (X' - Y < 27) := by omega
              have n4 : ¬ (31 < X' - Y) := by omega
              have n5 : ¬ X' < Y := by omega
              have n6 : ¬ B < X' := by omega
              have n7 : 0 < c + 1 := by omega
              have wz : IntKind.i64.wrap (X' - Y) = X' - Y := IntWalk.i64_in _ ⟨by omega, by omega⟩
              clear h1 HRest ml
              go_wp2_with (go_at_call 47; (with_reducible refine (HR1.out _).mono ?_); rintro _ W4 ⟨rfl, hb4⟩; have hw := bl2 hw hb4; have g4 := g4.below hb4 g4.lt; (have c0 := g4.cell 0; have c1 := g4.cell 1; have c2 := g4.cell 2; have c3 := g4.cell 3; have c4 := g4.cell 4; have c5 := g4.cell 5; have c6 := g4.cell 6; simp at c0 c1 c2 c3 c4 c5 c6))
              go_roundw
              case rel => exact ⟨Or.inr (Or.inr ⟨rfl, by rw [h2, show c + 1 + 1 = c + 2 by omega], rfl⟩), hw, g4⟩
              case measure => simp [intOf]
            · have HR1 := Lib.hid (fun W => lunarDayV h1 W)
              clear h1 HRest
              go_wp2_with (go_at_call 47; (with_reducible refine (HR1.out _).mono ?_); rintro _ W4 ⟨rfl, hb4⟩; have hw := bl2 hw hb4; have g4 := g4.below hb4 g4.lt; (have c0 := g4.cell 0; have c1 := g4.cell 1; have c2 := g4.cell 2; have c3 := g4.cell 3; have c4 := g4.cell 4; have c5 := g4.cell 5; have c6 := g4.cell 6; simp at c0 c1 c2 c3 c4 c5 c6))
              go_roundw
              case rel => exact ⟨Or.inr (Or.inr ⟨rfl, by rw [h2], by rw [h3]⟩), hw, g4⟩
              case measure => simp [intOf]
          · go_wp2_with fail
            go_roundw
            case rel => exact ⟨mo + 1, by omega, by omega, rfl, by rw [HC'.out], by rw [HX'.out, HC'.out], hw, g4⟩
            case measure => simp [intOf]; omega
end Go.Proofs.Ytfbnllmmoaialaa
namespace Go.Proofs.Ytfbnllmmoaialaa
open Go.RowKit

theorem lwyears_any (e b u d p f m y s l bY : Int) (w : World) (h0 : 0 ≤ bY) (h1 : bY < 65536) :
    Calls Try.prog 14 #[.agg #[.int .i64 e, .int .i64 b, .int .i64 u], .agg #[.int .i64 d, .int .i64 p, .int .i64 f, .int .i64 m, .int .i64 y, .int .i64 s, .int .i64 l], .int .u16 bY] w fun en w' => en = .returned (.bool true) ∧ Below w.heap.size w w' := by
  cases hs : solB ⟨e, b, u⟩ with
  | false => exact lwyears_n e b u d p f m y s l bY w h0 h1 hs
  | true =>
    cases hv : longB ⟨e, b, u⟩ (bY % 2000) with
    | true => exact lwyears_t e b u d p f m y s l bY w h0 h1 hs hv
    | false => exact lwyears_f e b u d p f m y s l bY w h0 h1 hs hv
end Go.Proofs.Ytfbnllmmoaialaa

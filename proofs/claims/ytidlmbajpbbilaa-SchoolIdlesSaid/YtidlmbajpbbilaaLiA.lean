/- The law SchoolIdles: the walk. -/
import Derived.Test.YtidlmbajpbbilaaRgJ
import Derived.Test.YtidlmbajpbbilaaLwA
namespace Go.Proofs.Ytidlmbajpbbilaa
open Go.RowKit

theorem stepM_pl (s : Sch) (O i : Nat) : stepM s.pl O i = stepM s O i := by simp only [stepM, sameB_pl]
theorem stepsM_pl (s : Sch) (O : Nat) : ∀ k, stepsM s.pl O k = stepsM s O k
  | 0 => rfl
  | k + 1 => by simp only [stepsM, stepM_pl, stepsM_pl s O k, len_pl]
theorem passM_pl (s : Sch) (O : Nat) : passM s.pl O = passM s O := by simp only [passM, stepsM_pl, len_pl]
theorem passes_pl (s : Sch) : ∀ j, passes s.pl j = passes s j
  | 0 => rfl
  | j + 1 => by simp only [passes, passM_pl, passes_pl s j]
theorem minOk_pl {s : Sch} {R : Nat} : MinOk s.pl R ↔ MinOk s R := by simp only [MinOk, passM_pl, passes_pl]
theorem minL_pl (s : Sch) (R : Nat) : minL s.pl R = minL s R := by simp only [minL, len_pl]
theorem idle_cong {s s' : Sch} (h : s'.pl = s.pl) : idleR s' = idleR s := by rw [← idleR_pl s', h, idleR_pl]
theorem sch_cong {s s' : Sch} (h : s'.pl = s.pl) : schB s' = schB s := by rw [← schB_pl s', h, schB_pl]
theorem min_yes {s s' : Sch} (h : s'.pl = s.pl) (hv : schB s = true) {w w' : World} {e : Ending} (hm : MinRet s' w e w') : ∃ R, MinOk s R ∧ RetSlE (minL s R) 0 w e w' := by
  simp only [MinRet, sch_cong h, hv, if_true] at hm
  obtain ⟨R, h1, h2⟩ := hm
  refine ⟨R, by rw [← minOk_pl, ← h, minOk_pl]; exact h1, ?_⟩
  rw [← minL_pl s R, ← h, minL_pl]; exact h2
theorem min_no {s s' : Sch} (h : s'.pl = s.pl) (hv : schB s = false) {w w' : World} {e : Ending} (hm : MinRet s' w e w') : RetSlE [] 2 w e w' := by
  simpa [MinRet, sch_cong h, hv] using hm
set_option maxRecDepth 100000 in
set_option maxHeartbeats 8000000 in
theorem lwidles_no (s : Sch) (w : World) (HRR : Hid (s.wreads w w.heap.size)) (HN0 : Hid s.nil0) (hg : largeB s 100 = false) (hv : schB s = false) : Calls Try.prog 11 #[scv s s.rv] w fun e w' => e = .returned (.bool true) ∧ Below w.heap.size w w' := by
  have HV := Lib.hid hv
  have HID : Hid (idleR s = ([], 2)) := (by simp [idleR, hv] : idleR s = ([], 2))
  obtain ⟨hlen, hall, -⟩ := not_large hg
  have HR := Lib.hid (reads_of_weak HRR.out hlen hall)
  clear hall
  go_enter Try.func11, Try.ntmps11
  go_wp2_with (first | (go_at_call 14; refine (large_any s 100 _ ((HRR.out.below (by (repeat (first | exact Below.refl _ _ | assumption | (refine Below.alloc ?_ (by first | omega | (simp; omega) | (simp; done)) _) | (refine Below.setCell ?_ (by first | omega | (simp; omega) | (simp; done)) _) | (refine Below.drew ?_) | (refine belowN ?_ _) | (refine Below.trans ?_ (Below.mono ‹Below _ _ _› (by first | omega | (simp; omega) | (simp; done)))))))).more (by simp))).mono ?_; rintro _ W1 ⟨rfl, hbx⟩; rw [hg]; have hw1 := bl2 (bla (Below.refl _ _)) hbx; have g1 : Blk W1 w.heap.size #[.int .i64 s.places, .int .i64 s.signs, .int .i64 s.kinds, .int .i64 s.answers, s.rv] 24 := (Blk.at_ rfl).below hbx (by first | omega | (simp; omega) | (simp; done)); (have s0 := g1.cell 0; have s1 := g1.cell 1; have s2 := g1.cell 2; have s3 := g1.cell 3; have s4 := g1.cell 4; simp at s0 s1 s2 s3 s4)) |
    (have _ := hw3; go_at_call 17; refine (own_any s _ ((HR.out.below hw3).more hw3.size) HN0.out (by omega)).mono ?_; rintro _ W4 ⟨s'', rfl, hpl, hr', -, hbx⟩; have HPL2 := Lib.hid hpl; have HR2 := Lib.hid hr'; clear hpl hr'; have hx4 := bl2 (Below.refl _ W3) hbx; have hw4 := bl2 hw3 hbx; have g1 := g1.below hbx g1.lt; (have s0 := g1.cell 0; have s1 := g1.cell 1; have s2 := g1.cell 2; have s3 := g1.cell 3; have s4 := g1.cell 4; simp at s0 s1 s2 s3 s4)) |
    (go_at_call 17; refine (own_any s _ ((HR.out.below hw1).more hw1.size) HN0.out (by omega)).mono ?_; rintro _ W2 ⟨s', rfl, hpl, hr', -, hbx⟩; have HPL := Lib.hid hpl; have HR' := Lib.hid hr'; clear hpl hr'; have hw2 := bl2 hw1 hbx; have g1 := g1.below hbx g1.lt; (have s0 := g1.cell 0; have s1 := g1.cell 1; have s2 := g1.cell 2; have s3 := g1.cell 3; have s4 := g1.cell 4; simp at s0 s1 s2 s3 s4)) |
    (go_at_call 45; refine (idle_any s' _ HR'.out).mono ?_; rw [idle_cong HPL.out, HID.out]; rintro _ W3 ⟨IA, ic, rfl, hIA, hb3⟩; have HIA := Lib.hid hIA; clear hIA; have hw3 := bl2 hw2 hb3; have g1 := g1.below hb3 g1.lt; (have s0 := g1.cell 0; have s1 := g1.cell 1; have s2 := g1.cell 2; have s3 := g1.cell 3; have s4 := g1.cell 4; simp at s0 s1 s2 s3 s4)) |
    (go_at_call 46; refine (minimal_any s'' _ HR2.out).mono ?_; intro e W5 hm; obtain ⟨MA, mc, rfl, hMA, hb5⟩ := min_no HPL2.out HV.out hm; refine Hid.out ?_))
  have hw5 := bl2 hw4 hb5
  have g1 := g1.below hb5 g1.lt
  (have s0 := g1.cell 0; have s1 := g1.cell 1; have s2 := g1.cell 2; have s3 := g1.cell 3; have s4 := g1.cell 4; simp at s0 s1 s2 s3 s4)
  clear hMA
  refine Lib.hid ?_
  go_wp2_with (first | (go_at_call 19; refine (rschool_any s _ ((HR.out.below hw5).more hw5.size)).mono ?_; rw [HV.out]; rintro _ Wx ⟨rfl, hbx'⟩) | (go_at_call 15; refine (known_any _).mono ?_; rintro _ Wk ⟨rfl, hbk'⟩))
  go_ret
  exact ⟨rfl, bl2 (bl2 hw5 hbx') hbk'⟩
set_option maxRecDepth 100000 in
set_option maxHeartbeats 8000000 in
theorem lwidles_yes (s : Sch) (w : World) (HRR : Hid (s.wreads w w.heap.size)) (HN0 : Hid s.nil0) (hg : largeB s 100 = false) (hv : schB s = true) : Calls Try.prog 11 #[scv s s.rv] w fun e w' => e = .returned (.bool true) ∧ Below w.heap.size w w' := by
  have HV := Lib.hid hv
  have HID : Hid (idleR s = (idleL s s.rules.length, 0)) := (by simp [idleR, hv] : idleR s = (idleL s s.rules.length, 0))
  obtain ⟨hlen, hall, -⟩ := not_large hg
  have HR := Lib.hid (reads_of_weak HRR.out hlen hall)
  clear hall
  go_enter Try.func11, Try.ntmps11
  go_wp2_with (first | (go_at_call 14; refine (large_any s 100 _ ((HRR.out.below (by (repeat (first | exact Below.refl _ _ | assumption | (refine Below.alloc ?_ (by first | omega | (simp; omega) | (simp; done)) _) | (refine Below.setCell ?_ (by first | omega | (simp; omega) | (simp; done)) _) | (refine Below.drew ?_) | (refine belowN ?_ _) | (refine Below.trans ?_ (Below.mono ‹Below _ _ _› (by first | omega | (simp; omega) | (simp; done)))))))).more (by simp))).mono ?_; rintro _ W1 ⟨rfl, hbx⟩; rw [hg]; have hw1 := bl2 (bla (Below.refl _ _)) hbx; have g1 : Blk W1 w.heap.size #[.int .i64 s.places, .int .i64 s.signs, .int .i64 s.kinds, .int .i64 s.answers, s.rv] 24 := (Blk.at_ rfl).below hbx (by first | omega | (simp; omega) | (simp; done)); (have s0 := g1.cell 0; have s1 := g1.cell 1; have s2 := g1.cell 2; have s3 := g1.cell 3; have s4 := g1.cell 4; simp at s0 s1 s2 s3 s4)) |
    (have _ := hw3; go_at_call 17; refine (own_any s _ ((HR.out.below hw3).more hw3.size) HN0.out (by omega)).mono ?_; rintro _ W4 ⟨s'', rfl, hpl, hr', -, hbx⟩; have HPL2 := Lib.hid hpl; have HR2 := Lib.hid hr'; clear hpl hr'; have hx4 := bl2 (Below.refl _ W3) hbx; have hw4 := bl2 hw3 hbx; have g1 := g1.below hbx g1.lt; (have s0 := g1.cell 0; have s1 := g1.cell 1; have s2 := g1.cell 2; have s3 := g1.cell 3; have s4 := g1.cell 4; simp at s0 s1 s2 s3 s4)) |
    (go_at_call 17; refine (own_any s _ ((HR.out.below hw1).more hw1.size) HN0.out (by omega)).mono ?_; rintro _ W2 ⟨s', rfl, hpl, hr', -, hbx⟩; have HPL := Lib.hid hpl; have HR' := Lib.hid hr'; clear hpl hr'; have hw2 := bl2 hw1 hbx; have g1 := g1.below hbx g1.lt; (have s0 := g1.cell 0; have s1 := g1.cell 1; have s2 := g1.cell 2; have s3 := g1.cell 3; have s4 := g1.cell 4; simp at s0 s1 s2 s3 s4)) |
    (go_at_call 45; refine (idle_any s' _ HR'.out).mono ?_; rw [idle_cong HPL.out, HID.out]; rintro _ W3 ⟨IA, ic, rfl, hIA, hb3⟩; have HIA := Lib.hid hIA; clear hIA; have hw3 := bl2 hw2 hb3; have g1 := g1.below hb3 g1.lt; (have s0 := g1.cell 0; have s1 := g1.cell 1; have s2 := g1.cell 2; have s3 := g1.cell 3; have s4 := g1.cell 4; simp at s0 s1 s2 s3 s4)) |
    (go_at_call 46; refine (minimal_any s'' _ HR2.out).mono ?_; intro e W5 hm; obtain ⟨R, hmo, MA, mc, rfl, hMA, hb5⟩ := min_yes HPL2.out HV.out hm; refine Hid.out ?_))
  have hw5 := bl2 hw4 hb5
  have g1 := g1.below hb5 g1.lt
  (have s0 := g1.cell 0; have s1 := g1.cell 1; have s2 := g1.cell 2; have s3 := g1.cell 3; have s4 := g1.cell 4; simp at s0 s1 s2 s3 s4)
  have HMA := Lib.hid hMA; have HMO := Lib.hid hmo
  have HI5 : Hid (Sl intCell 1 W5 W5.heap.size IA (idleL s s.rules.length)) := ((HIA.out.below (bl2 hx4 hb5)).more (bl2 hx4 hb5).size : Sl intCell 1 W5 W5.heap.size IA (idleL s s.rules.length))
  have hil := idleL_len s s.rules.length
  have hml : (minL s R).length ≤ 35 := by have := minLk_len s R s.rules.length; exact Nat.le_trans this hlen
  clear hMA hmo HIA
  refine Lib.hid ?_
  go_wp2_with (first | (go_at_call 19; refine (rschool_any s _ ((HR.out.below hw5).more hw5.size)).mono ?_; rw [HV.out]; rintro _ Wx ⟨rfl, hbx'⟩; have hwx := bl2 hw5 hbx'; have g1 := g1.below hbx' g1.lt; (have s0 := g1.cell 0; have s1 := g1.cell 1; have s2 := g1.cell 2; have s3 := g1.cell 3; have s4 := g1.cell 4; simp at s0 s1 s2 s3 s4)) |
    (go_at_call 47; refine (ridle_any s HV.out _ ((HR.out.below hwx).more hwx.size)).mono ?_; rintro _ W6 ⟨v6, rfl, hown6, hb6⟩; obtain ⟨A6, c6, rfl, hA6⟩ := Sl.of_own hown6; have HA6 := Lib.hid hA6; clear hown6 hA6; have hw6 := bl2 hwx hb6; have h56 := bl2 hbx' hb6; have g1 := g1.below hb6 g1.lt; (have s0 := g1.cell 0; have s1 := g1.cell 1; have s2 := g1.cell 2; have s3 := g1.cell 3; have s4 := g1.cell 4; simp at s0 s1 s2 s3 s4)) |
    (have _ := hw8; go_at_call 22; refine (lsame_any MA A8 mc c8 (minL s R) (minL s R) _ (by omega) ((HMA.out.below h58).more h58.size) HA8.out).mono ?_; rintro _ W9 ⟨e1, hb9⟩; rw [beq_self_eq_true] at e1; subst e1) |
    (go_at_call 22; refine (lsame_any IA A6 ic c6 (idleL s s.rules.length) (idleL s s.rules.length) _ (by omega) ((HI5.out.below h56).more h56.size) HA6.out).mono ?_; rintro _ W7 ⟨e1, hb7⟩; rw [beq_self_eq_true] at e1; subst e1; have hw7 := bl2 hw6 hb7; have h57 := bl2 h56 hb7; have g1 := g1.below hb7 g1.lt; (have s0 := g1.cell 0; have s1 := g1.cell 1; have s2 := g1.cell 2; have s3 := g1.cell 3; have s4 := g1.cell 4; simp at s0 s1 s2 s3 s4)) |
    (go_at_call 48; refine (rminimal_any s HV.out _ ((HR.out.below hw7).more hw7.size)).mono ?_; rintro _ W8 ⟨R', hmo', v8, rfl, hown8, hb8⟩; obtain rfl := min_one HMO.out hmo'; obtain ⟨A8, c8, rfl, hA8⟩ := Sl.of_own hown8; have HA8 := Lib.hid hA8; clear hown8 hA8; have hw8 := bl2 hw7 hb8; have h58 := bl2 h57 hb8; have g1 := g1.below hb8 g1.lt; (have s0 := g1.cell 0; have s1 := g1.cell 1; have s2 := g1.cell 2; have s3 := g1.cell 3; have s4 := g1.cell 4; simp at s0 s1 s2 s3 s4)) | (go_at_call 15; refine (known_any _).mono ?_; rintro _ Wk ⟨rfl, hbk'⟩))
  go_ret
  exact ⟨rfl, bl2 (bl2 hw8 hb9) hbk'⟩
set_option maxRecDepth 100000 in
set_option maxHeartbeats 8000000 in
theorem lwidles_any (s : Sch) (w : World) (hr : s.wreads w w.heap.size) (h0 : s.nil0) : Calls Try.prog 11 #[scv s s.rv] w fun e w' => e = .returned (.bool true) ∧ Below w.heap.size w w' := by
  have HRR := Lib.hid hr; have HN0 := Lib.hid h0
  clear hr h0
  by_cases hg : largeB s 100 = true
  · go_enter Try.func11, Try.ntmps11
    go_wp2_with (first | (go_at_call 14; refine (large_any s 100 _ ((HRR.out.below (by (repeat (first | exact Below.refl _ _ | assumption | (refine Below.alloc ?_ (by first | omega | (simp; omega) | (simp; done)) _) | (refine Below.setCell ?_ (by first | omega | (simp; omega) | (simp; done)) _) | (refine Below.drew ?_) | (refine belowN ?_ _) | (refine Below.trans ?_ (Below.mono ‹Below _ _ _› (by first | omega | (simp; omega) | (simp; done)))))))).more (by simp))).mono ?_; rintro _ W1 ⟨rfl, hb1⟩; have hw1 : Below w.heap.size w W1 := bl2 (bla (Below.refl _ _)) hb1; rw [hg]) | (go_at_call 15; refine (known_any _).mono ?_; rintro _ Wk ⟨rfl, hbk'⟩))
    go_ret
    exact ⟨rfl, bl2 hw1 hbk'⟩
  · simp only [Bool.not_eq_true] at hg
    cases hv : schB s with
    | false => exact lwidles_no s w HRR HN0 hg hv
    | true => exact lwidles_yes s w HRR HN0 hg hv
end Go.Proofs.Ytidlmbajpbbilaa

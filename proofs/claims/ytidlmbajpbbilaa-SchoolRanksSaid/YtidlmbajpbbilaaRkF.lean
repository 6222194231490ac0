/- The law SchoolRanks: every input. -/
import Derived.Test.YtidlmbajpbbilaaRkE
namespace Go.Proofs.Ytidlmbajpbbilaa
open Go.RowKit

set_option maxRecDepth 100000 in
set_option maxHeartbeats 8000000 in
theorem lwranks_any (s : Sch) (m : Rul) (Bq : Option Addr) (bc : Nat) (bs : List Int) (w : World) (hr : s.wreads w w.heap.size) (h0 : s.nil0) (hm : m.wreads w w.heap.size) (hm0 : m.nil0)
    (hB : Sl byteCell 1 w w.heap.size Bq bs) (hbv : ∀ x ∈ bs, 0 ≤ x ∧ x < 256) :
    Calls Try.prog 9 #[scv s s.rv, .agg #[.slice m.wa m.when_.length m.wc, .int .i64 m.kinds, .int .i64 m.rank, .slice m.ua m.unless_.length m.uc, .int .i64 m.says], .slice Bq bs.length bc] w fun e w' => e = .returned (.bool true) ∧ Below w.heap.size w w' := by
  have HRR := Lib.hid hr; have HN0 := Lib.hid h0; have HMW := Lib.hid hm; have HM0 := Lib.hid hm0; have HBY := Lib.hid hB; have HBV := Lib.hid hbv
  clear hr h0 hm hm0 hB hbv
  by_cases hg : largeB s 600 = true
  · go_enter Try.func9, Try.ntmps9
    go_wp2_with (first | (go_at_call 14; refine (large_any s 600 _ ((HRR.out.below (by (repeat (first | exact Below.refl _ _ | assumption | (refine Below.alloc ?_ (by first | omega | (simp; omega) | (simp; done)) _) | (refine Below.setCell ?_ (by first | omega | (simp; omega) | (simp; done)) _) | (refine Below.drew ?_) | (refine belowN ?_ _) | (refine Below.trans ?_ (Below.mono ‹Below _ _ _› (by first | omega | (simp; omega) | (simp; done)))))))).more (by simp; omega))).mono ?_; rintro _ W1 ⟨rfl, hbx⟩; rw [hg]; have hw1 := bl2 (bla (bla (Below.refl _ _))) hbx; have g1 : Blk W1 w.heap.size #[.int .i64 s.places, .int .i64 s.signs, .int .i64 s.kinds, .int .i64 s.answers, s.rv] 24 := ((Blk.at_ rfl).alloc _).below hbx (by first | omega | (simp; omega) | (simp; done)); have g2 : Blk W1 (w.heap.size + 1) #[.slice m.wa m.when_.length m.wc, .int .i64 m.kinds, .int .i64 m.rank, .slice m.ua m.unless_.length m.uc, .int .i64 m.says] 82 := (Blk.at_ (by simp)).below hbx (by first | omega | (simp; omega) | (simp; done)); (have s0 := g1.cell 0; have s1 := g1.cell 1; have s2 := g1.cell 2; have s3 := g1.cell 3; have s4 := g1.cell 4; simp at s0 s1 s2 s3 s4); (have t0 := g2.cell 0; have t1 := g2.cell 1; have t2 := g2.cell 2; have t3 := g2.cell 3; have t4 := g2.cell 4; simp at t0 t1 t2 t3 t4)) | (go_at_call 15; refine (known_any _).mono ?_; rintro _ Wk ⟨rfl, hbk'⟩))
    go_ret
    exact ⟨rfl, bl2 hw1 hbk'⟩
  · simp only [Bool.not_eq_true] at hg
    obtain ⟨hlen, hall, -⟩ := not_large hg
    by_cases h29 : s.rules.length ≤ 29
    · have d1 : decide (29 < (s.rules.length : Int)) = false := by simp; omega
      have d1' : decide (29 < s.rules.length) = false := by simp; omega
      by_cases h8 : m.when_.length ≤ 8
      · have d2 : decide (8 < (m.when_.length : Int)) = false := by simp; omega
        have d2' : decide (8 < m.when_.length) = false := by simp; omega
        by_cases h10 : bs.length ≤ 10
        · have d3 : decide (10 < (bs.length : Int)) = false := by simp; omega
          have d3' : decide (10 < bs.length) = false := by simp; omega
          cases hv : schB s with
          | true => exact lwranks_ok s m Bq bc bs w HRR HN0 HMW HM0 HBY HBV hg h29 h8 h10 hv
          | false =>
            have HV := Lib.hid hv
            have HR := Lib.hid (reads_of_weak HRR.out hlen hall)
            have HOWN := Lib.hid (fun W (hW : Below w.heap.size w W) => own_new s W ((HR.out.below hW).more hW.size) HN0.out (by omega))
            have ne : (errB false != 0) = true := by decide
            clear hv hall
            go_enter Try.func9, Try.ntmps9
            go_wp2_with (first | (go_at_call 14; refine (large_any s 600 _ ((HRR.out.below (by (repeat (first | exact Below.refl _ _ | assumption | (refine Below.alloc ?_ (by first | omega | (simp; omega) | (simp; done)) _) | (refine Below.setCell ?_ (by first | omega | (simp; omega) | (simp; done)) _) | (refine Below.drew ?_) | (refine belowN ?_ _) | (refine Below.trans ?_ (Below.mono ‹Below _ _ _› (by first | omega | (simp; omega) | (simp; done)))))))).more (by simp; omega))).mono ?_; rintro _ W1 ⟨rfl, hbx⟩; rw [hg]; have hw1 := bl2 (bla (bla (Below.refl _ _))) hbx; have g1 : Blk W1 w.heap.size #[.int .i64 s.places, .int .i64 s.signs, .int .i64 s.kinds, .int .i64 s.answers, s.rv] 24 := ((Blk.at_ rfl).alloc _).below hbx (by first | omega | (simp; omega) | (simp; done)); have g2 : Blk W1 (w.heap.size + 1) #[.slice m.wa m.when_.length m.wc, .int .i64 m.kinds, .int .i64 m.rank, .slice m.ua m.unless_.length m.uc, .int .i64 m.says] 82 := (Blk.at_ (by simp)).below hbx (by first | omega | (simp; omega) | (simp; done)); (have s0 := g1.cell 0; have s1 := g1.cell 1; have s2 := g1.cell 2; have s3 := g1.cell 3; have s4 := g1.cell 4; simp at s0 s1 s2 s3 s4); (have t0 := g2.cell 0; have t1 := g2.cell 1; have t2 := g2.cell 2; have t3 := g2.cell 3; have t4 := g2.cell 4; simp at t0 t1 t2 t3 t4)) | (go_at_call 17; refine (HOWN.out _ hw1).mono ?_; rintro _ W2 ⟨s', rfl, hpl, hm', -, hbo⟩; have HPL := Lib.hid hpl; have HR' := Lib.hid hm'.reads; clear hpl hm'; have hw2 := bl2 hw1 hbo) | (go_at_call 36; refine (chk_yes HV.out HPL.out _ HR'.out).mono ?_; rintro _ W3 ⟨rfl, hbc⟩; have hw3 := bl2 hw2 hbc) | (go_at_call 15; refine (known_any _).mono ?_; rintro _ Wk ⟨rfl, hbk'⟩))
            go_ret
            exact ⟨rfl, bl2 hw3 hbk'⟩
        · have d3 : decide (10 < (bs.length : Int)) = true := by simp; omega
          have d3' : decide (10 < bs.length) = true := by simp; omega
          clear hall
          go_enter Try.func9, Try.ntmps9
          go_wp2_with (first | (go_at_call 14; refine (large_any s 600 _ ((HRR.out.below (by (repeat (first | exact Below.refl _ _ | assumption | (refine Below.alloc ?_ (by first | omega | (simp; omega) | (simp; done)) _) | (refine Below.setCell ?_ (by first | omega | (simp; omega) | (simp; done)) _) | (refine Below.drew ?_) | (refine belowN ?_ _) | (refine Below.trans ?_ (Below.mono ‹Below _ _ _› (by first | omega | (simp; omega) | (simp; done)))))))).more (by simp; omega))).mono ?_; rintro _ W1 ⟨rfl, hbx⟩; rw [hg]; have hw1 := bl2 (bla (bla (Below.refl _ _))) hbx; have g1 : Blk W1 w.heap.size #[.int .i64 s.places, .int .i64 s.signs, .int .i64 s.kinds, .int .i64 s.answers, s.rv] 24 := ((Blk.at_ rfl).alloc _).below hbx (by first | omega | (simp; omega) | (simp; done)); have g2 : Blk W1 (w.heap.size + 1) #[.slice m.wa m.when_.length m.wc, .int .i64 m.kinds, .int .i64 m.rank, .slice m.ua m.unless_.length m.uc, .int .i64 m.says] 82 := (Blk.at_ (by simp)).below hbx (by first | omega | (simp; omega) | (simp; done)); (have s0 := g1.cell 0; have s1 := g1.cell 1; have s2 := g1.cell 2; have s3 := g1.cell 3; have s4 := g1.cell 4; simp at s0 s1 s2 s3 s4); (have t0 := g2.cell 0; have t1 := g2.cell 1; have t2 := g2.cell 2; have t3 := g2.cell 3; have t4 := g2.cell 4; simp at t0 t1 t2 t3 t4)) | (go_at_call 15; refine (known_any _).mono ?_; rintro _ Wk ⟨rfl, hbk'⟩))
          go_ret
          exact ⟨rfl, bl2 hw1 hbk'⟩
      · have d2 : decide (8 < (m.when_.length : Int)) = true := by simp; omega
        have d2' : decide (8 < m.when_.length) = true := by simp; omega
        clear hall
        go_enter Try.func9, Try.ntmps9
        go_wp2_with (first | (go_at_call 14; refine (large_any s 600 _ ((HRR.out.below (by (repeat (first | exact Below.refl _ _ | assumption | (refine Below.alloc ?_ (by first | omega | (simp; omega) | (simp; done)) _) | (refine Below.setCell ?_ (by first | omega | (simp; omega) | (simp; done)) _) | (refine Below.drew ?_) | (refine belowN ?_ _) | (refine Below.trans ?_ (Below.mono ‹Below _ _ _› (by first | omega | (simp; omega) | (simp; done)))))))).more (by simp; omega))).mono ?_; rintro _ W1 ⟨rfl, hbx⟩; rw [hg]; have hw1 := bl2 (bla (bla (Below.refl _ _))) hbx; have g1 : Blk W1 w.heap.size #[.int .i64 s.places, .int .i64 s.signs, .int .i64 s.kinds, .int .i64 s.answers, s.rv] 24 := ((Blk.at_ rfl).alloc _).below hbx (by first | omega | (simp; omega) | (simp; done)); have g2 : Blk W1 (w.heap.size + 1) #[.slice m.wa m.when_.length m.wc, .int .i64 m.kinds, .int .i64 m.rank, .slice m.ua m.unless_.length m.uc, .int .i64 m.says] 82 := (Blk.at_ (by simp)).below hbx (by first | omega | (simp; omega) | (simp; done)); (have s0 := g1.cell 0; have s1 := g1.cell 1; have s2 := g1.cell 2; have s3 := g1.cell 3; have s4 := g1.cell 4; simp at s0 s1 s2 s3 s4); (have t0 := g2.cell 0; have t1 := g2.cell 1; have t2 := g2.cell 2; have t3 := g2.cell 3; have t4 := g2.cell 4; simp at t0 t1 t2 t3 t4)) | (go_at_call 15; refine (known_any _).mono ?_; rintro _ Wk ⟨rfl, hbk'⟩))
        go_ret
        exact ⟨rfl, bl2 hw1 hbk'⟩
    · have d1 : decide (29 < (s.rules.length : Int)) = true := by simp; omega
      have d1' : decide (29 < s.rules.length) = true := by simp; omega
      clear hall
      go_enter Try.func9, Try.ntmps9
      go_wp2_with (first | (go_at_call 14; refine (large_any s 600 _ ((HRR.out.below (by (repeat (first | exact Below.refl _ _ | assumption | (refine Below.alloc ?_ (by first | omega | (simp; omega) | (simp; done)) _) | (refine Below.setCell ?_ (by first | omega | (simp; omega) | (simp; done)) _) | (refine Below.drew ?_) | (refine belowN ?_ _) | (refine Below.trans ?_ (Below.mono ‹Below _ _ _› (by first | omega | (simp; omega) | (simp; done)))))))).more (by simp; omega))).mono ?_; rintro _ W1 ⟨rfl, hbx⟩; rw [hg]; have hw1 := bl2 (bla (bla (Below.refl _ _))) hbx; have g1 : Blk W1 w.heap.size #[.int .i64 s.places, .int .i64 s.signs, .int .i64 s.kinds, .int .i64 s.answers, s.rv] 24 := ((Blk.at_ rfl).alloc _).below hbx (by first | omega | (simp; omega) | (simp; done)); have g2 : Blk W1 (w.heap.size + 1) #[.slice m.wa m.when_.length m.wc, .int .i64 m.kinds, .int .i64 m.rank, .slice m.ua m.unless_.length m.uc, .int .i64 m.says] 82 := (Blk.at_ (by simp)).below hbx (by first | omega | (simp; omega) | (simp; done)); (have s0 := g1.cell 0; have s1 := g1.cell 1; have s2 := g1.cell 2; have s3 := g1.cell 3; have s4 := g1.cell 4; simp at s0 s1 s2 s3 s4); (have t0 := g2.cell 0; have t1 := g2.cell 1; have t2 := g2.cell 2; have t3 := g2.cell 3; have t4 := g2.cell 4; simp at t0 t1 t2 t3 t4)) | (go_at_call 15; refine (known_any _).mono ?_; rintro _ Wk ⟨rfl, hbk'⟩))
      go_ret
      exact ⟨rfl, bl2 hw1 hbk'⟩
end Go.Proofs.Ytidlmbajpbbilaa

/- The law SchoolTotal: the walk, all cases. -/
import Derived.Test.YtidlmbajpbbilaaToB
namespace Go.Proofs.Ytidlmbajpbbilaa
open Go.RowKit

set_option maxRecDepth 100000 in
set_option maxHeartbeats 8000000 in
theorem lwtotal_any (s : Sch) (q : Clm) (Bq : Option Addr) (bc : Nat) (bs : List Int) (w : World) (hr : s.wreads w w.heap.size) (h0 : s.nil0) (hq : (Sl setCell1 1 w w.heap.size q.sa q.sets ∧ ∀ x ∈ q.sets, IsU64 x) ∧ q.nil0)
    (hB : Sl byteCell 1 w w.heap.size Bq bs) (hbv : ∀ x ∈ bs, 0 ≤ x ∧ x < 256) :
    Calls Try.prog 7 #[scv s s.rv, .agg #[.int .i64 q.kind, .slice q.sa q.sets.length q.sc, .bool q.total, .bool q.clear], .slice Bq bs.length bc] w fun e w' => e = .returned (.bool true) ∧ Below w.heap.size w w' := by
  obtain ⟨kind, A, c, sets, tt, cc⟩ := q
  obtain ⟨⟨hA, ho⟩, hn⟩ := hq
  simp only at hA ho ⊢
  have HRR := Lib.hid hr; have HAA := Lib.hid hA; have HN0 := Lib.hid h0; have HO := Lib.hid ho; have HBY := Lib.hid hB; have HBV := Lib.hid hbv
  have HN : Hid (A = none → c = 0) := (hn : A = none → c = 0)
  clear hr hA h0 ho hB hbv hn
  by_cases hg : largeB s 600 = true
  · go_enter Try.func7, Try.ntmps7
    go_wp2_with (first | (go_at_call 14; refine (large_any s 600 _ ((HRR.out.below (by (repeat (first | exact Below.refl _ _ | assumption | (refine Below.alloc ?_ (by first | omega | (simp; omega) | (simp; done)) _) | (refine Below.setCell ?_ (by first | omega | (simp; omega) | (simp; done)) _) | (refine Below.drew ?_) | (refine belowN ?_ _) | (refine Below.trans ?_ (Below.mono ‹Below _ _ _› (by first | omega | (simp; omega) | (simp; done)))))))).more (by simp; omega))).mono ?_; rintro _ W1 ⟨rfl, hbx⟩; rw [hg]; have hw1 := bl2 (bla (bla (Below.refl _ _))) hbx; have g2 : Blk W1 (w.heap.size + 1) #[.int .i64 kind, .slice A sets.length c, .bool tt, .bool cc] 43 := (Blk.at_ (by simp)).below hbx (by first | omega | (simp; omega) | (simp; done)); have t1 := g2.cell 1; simp at t1) | (go_at_call 15; refine (known_any _).mono ?_; rintro _ Wk ⟨rfl, hbk'⟩))
    go_ret
    exact ⟨rfl, bl2 hw1 hbk'⟩
  · simp only [Bool.not_eq_true] at hg
    by_cases h10 : sets.length ≤ 10
    · have d1 : decide (10 < (sets.length : Int)) = false := by simp; omega
      have d1' : decide (10 < sets.length) = false := by simp; omega
      by_cases hb10 : bs.length ≤ 10
      · exact lwtotal_ok s kind A c sets tt cc Bq bc bs w HRR HN0 HAA HO HN HBY HBV hg h10 hb10
      · have d2 : decide (10 < (bs.length : Int)) = true := by simp; omega
        have d2' : decide (10 < bs.length) = true := by simp; omega
        go_enter Try.func7, Try.ntmps7
        go_wp2_with (first | (go_at_call 14; refine (large_any s 600 _ ((HRR.out.below (by (repeat (first | exact Below.refl _ _ | assumption | (refine Below.alloc ?_ (by first | omega | (simp; omega) | (simp; done)) _) | (refine Below.setCell ?_ (by first | omega | (simp; omega) | (simp; done)) _) | (refine Below.drew ?_) | (refine belowN ?_ _) | (refine Below.trans ?_ (Below.mono ‹Below _ _ _› (by first | omega | (simp; omega) | (simp; done)))))))).more (by simp; omega))).mono ?_; rintro _ W1 ⟨rfl, hbx⟩; rw [hg]; have hw1 := bl2 (bla (bla (Below.refl _ _))) hbx; have g2 : Blk W1 (w.heap.size + 1) #[.int .i64 kind, .slice A sets.length c, .bool tt, .bool cc] 43 := (Blk.at_ (by simp)).below hbx (by first | omega | (simp; omega) | (simp; done)); have t1 := g2.cell 1; simp at t1) | (go_at_call 15; refine (known_any _).mono ?_; rintro _ Wk ⟨rfl, hbk'⟩))
        go_ret
        exact ⟨rfl, bl2 hw1 hbk'⟩
    · have d1 : decide (10 < (sets.length : Int)) = true := by simp; omega
      have d1' : decide (10 < sets.length) = true := by simp; omega
      go_enter Try.func7, Try.ntmps7
      go_wp2_with (first | (go_at_call 14; refine (large_any s 600 _ ((HRR.out.below (by (repeat (first | exact Below.refl _ _ | assumption | (refine Below.alloc ?_ (by first | omega | (simp; omega) | (simp; done)) _) | (refine Below.setCell ?_ (by first | omega | (simp; omega) | (simp; done)) _) | (refine Below.drew ?_) | (refine belowN ?_ _) | (refine Below.trans ?_ (Below.mono ‹Below _ _ _› (by first | omega | (simp; omega) | (simp; done)))))))).more (by simp; omega))).mono ?_; rintro _ W1 ⟨rfl, hbx⟩; rw [hg]; have hw1 := bl2 (bla (bla (Below.refl _ _))) hbx; have g2 : Blk W1 (w.heap.size + 1) #[.int .i64 kind, .slice A sets.length c, .bool tt, .bool cc] 43 := (Blk.at_ (by simp)).below hbx (by first | omega | (simp; omega) | (simp; done)); have t1 := g2.cell 1; simp at t1) | (go_at_call 15; refine (known_any _).mono ?_; rintro _ Wk ⟨rfl, hbk'⟩))
      go_ret
      exact ⟨rfl, bl2 hw1 hbk'⟩
end Go.Proofs.Ytidlmbajpbbilaa

/- The law SchoolDiffers: the walk, all cases. -/
import Derived.Test.YtidlmbajpbbilaaLdD
namespace Go.Proofs.Ytidlmbajpbbilaa
open Go.RowKit

set_option maxRecDepth 100000 in
set_option maxHeartbeats 8000000 in
theorem lwdiffers_any (a b : Sch) (kind : Int) (w : World) (ha : a.wreads w w.heap.size) (hb : b.wreads w w.heap.size) (ha0 : a.nil0) (hb0 : b.nil0) :
    Calls Try.prog 8 #[scv a a.rv, scv b b.rv, .int .i64 kind] w fun e w' => e = .returned (.bool true) ∧ Below w.heap.size w w' := by
  have HAW := Lib.hid ha; have HBW := Lib.hid hb; have HA0 := Lib.hid ha0; have HB0 := Lib.hid hb0
  clear ha hb ha0 hb0
  by_cases hga : largeB a 600 = true
  · go_enter Try.func8, Try.ntmps8
    go_wp2_with (first | (go_at_call 14; refine (large_any a 600 _ ((HAW.out.below (by (repeat (first | exact Below.refl _ _ | assumption | (refine Below.alloc ?_ (by first | omega | (simp; omega) | (simp; done)) _) | (refine Below.setCell ?_ (by first | omega | (simp; omega) | (simp; done)) _) | (refine Below.drew ?_) | (refine belowN ?_ _) | (refine Below.trans ?_ (Below.mono ‹Below _ _ _› (by first | omega | (simp; omega) | (simp; done)))))))).more (by simp; omega))).mono ?_; rintro _ W1 ⟨rfl, hbx⟩; rw [hga]; have hw1 := bl2 (bla (bla (Below.refl _ _))) hbx) | (go_at_call 15; refine (known_any _).mono ?_; rintro _ Wk ⟨rfl, hbk'⟩))
    go_ret
    exact ⟨rfl, bl2 hw1 hbk'⟩
  · simp only [Bool.not_eq_true] at hga
    by_cases hgb : largeB b 600 = true
    · go_enter Try.func8, Try.ntmps8
      go_wp2_with (first | (have _ := hw1; go_at_call 14; refine (large_any b 600 _ ((HBW.out.below hw1).more hw1.size)).mono ?_; rintro _ W2 ⟨rfl, hbx⟩; rw [hgb]; have hw2 := bl2 hw1 hbx) |
        (go_at_call 14; refine (large_any a 600 _ ((HAW.out.below (by (repeat (first | exact Below.refl _ _ | assumption | (refine Below.alloc ?_ (by first | omega | (simp; omega) | (simp; done)) _) | (refine Below.setCell ?_ (by first | omega | (simp; omega) | (simp; done)) _) | (refine Below.drew ?_) | (refine belowN ?_ _) | (refine Below.trans ?_ (Below.mono ‹Below _ _ _› (by first | omega | (simp; omega) | (simp; done)))))))).more (by simp; omega))).mono ?_; rintro _ W1 ⟨rfl, hbx⟩; rw [hga]; have hw1 := bl2 (bla (bla (Below.refl _ _))) hbx; have g2 : Blk W1 (w.heap.size + 1) #[.int .i64 b.places, .int .i64 b.signs, .int .i64 b.kinds, .int .i64 b.answers, b.rv] 24 := (Blk.at_ (by simp)).below hbx (by first | omega | (simp; omega) | (simp; done)); have t0 := g2.cell 0; have t1 := g2.cell 1; have t2 := g2.cell 2; have t3 := g2.cell 3; have t4 := g2.cell 4; simp at t0 t1 t2 t3 t4) | (go_at_call 15; refine (known_any _).mono ?_; rintro _ Wk ⟨rfl, hbk'⟩))
      go_ret
      exact ⟨rfl, bl2 hw2 hbk'⟩
    · simp only [Bool.not_eq_true] at hgb
      cases hva : schB a with
      | false => exact lwdiffers_a a b kind w HAW HBW HA0 HB0 hga hgb hva
      | true =>
        cases hvb : schB b with
        | false => exact lwdiffers_b a b kind w HAW HBW HA0 HB0 hga hgb hva hvb
        | true =>
          cases hp : a.places == b.places with
          | false => exact lwdiffers_p a b kind w HAW HBW HA0 HB0 hga hgb hva hvb hp
          | true =>
            cases hs : a.signs == b.signs with
            | false => exact lwdiffers_s a b kind w HAW HBW HA0 HB0 hga hgb hva hvb hp hs
            | true =>
              by_cases hk0 : kind < 0
              · exact lwdiffers_k0 a b kind w HAW HBW HA0 HB0 hga hgb hva hvb hp hs hk0
              · by_cases hka : kind < a.kinds
                · by_cases hkb : kind < b.kinds
                  · exact lwdiffers_y a b kind w HAW HBW HA0 HB0 hga hgb hva hvb hp hs (by omega) hka hkb
                  · exact lwdiffers_k2 a b kind w HAW HBW HA0 HB0 hga hgb hva hvb hp hs (by omega) hka (by omega)
                · exact lwdiffers_k1 a b kind w HAW HBW HA0 HB0 hga hgb hva hvb hp hs (by omega) (by omega)
end Go.Proofs.Ytidlmbajpbbilaa

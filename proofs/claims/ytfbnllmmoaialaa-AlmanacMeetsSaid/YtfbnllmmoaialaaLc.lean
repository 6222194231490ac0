/- almanac: the law AlmanacMeets returns true. -/
import Derived.Test.YtfbnllmmoaialaaLc0
import Derived.Test.YtfbnllmmoaialaaLc1
namespace Go.Proofs.Ytfbnllmmoaialaa
open Go.RowKit

set_option maxRecDepth 100000 in
set_option maxHeartbeats 4000000 in
theorem lwmeets_any (A : Option Addr) (c : Nat) (cs : List Cyc) (A2 : Option Addr) (c2 : Nat) (ps : List Int) (f m : Int) (w : World) (hm0 : 0 ≤ m) (hm1 : m < 256) (hz : A = none → c = 0) (hz2 : A2 = none → c2 = 0) (hr : Sl Cyc.cells 2 w w.heap.size A cs) (hr2 : Sl intCell 1 w w.heap.size A2 ps) :
    Calls Try.prog 5 #[.slice A cs.length c, .agg #[.slice A2 ps.length c2, .int .i64 f, .int .u8 m]] w fun en w' => en = .returned (.bool true) ∧ Below w.heap.size w w' := by
  by_cases hl : cs.length ≤ 8
  · by_cases hl2 : ps.length ≤ 8
    · obtain ⟨⟨D, P, E⟩, hE⟩ : ∃ x, x = meetR cs ps f := ⟨_, rfl⟩
      by_cases h0 : E = 0
      · subst h0
        exact lwmeets_0 A c cs A2 c2 ps f m D P w hm0 hm1 hz hz2 hr hr2 hl hl2 hE.symm
      · have h1 := meetR_n0 (cs := cs) (ps := ps) (d := f) (by rw [← hE]; exact h0)
        rw [← hE] at h1
        obtain ⟨h2, h3⟩ := h1
        simp only at h2 h3
        subst h2 h3
        exact lwmeets_e A c cs A2 c2 ps f m E w hm0 hm1 hz hz2 hr hr2 hl hl2 hE.symm h0
    · have d1 : decide ((8 : Int) < (cs.length : Int)) = false := by simp; omega
      have d2 : decide ((8 : Int) < (ps.length : Int)) = true := by simp; omega
      have hw := Below.refl w.heap.size w
      clear hr hr2
      go_enter Try.func5, Try.ntmps5
      go_upto_region 2 with fail
      refine gen_w (fun W => Below w.heap.size w W) (by (repeat (first | exact Below.refl _ _ | assumption | (refine Below.alloc ?_ (by first | omega | (simp; omega) | (simp; done)) _) | (refine Below.setCell ?_ (by first | omega | (simp; omega) | (simp; done)) _) | (refine Below.drew ?_) | (refine belowN ?_ _) | (refine Below.trans ?_ (Below.mono ‹Below _ _ _› (by first | omega | (simp; omega) | (simp; done))))))) ?_
      clear hw
      rintro w0 hw
      go_wp2_with (go_at_call 17; refine (known_any _).mono ?_; rintro _ WK ⟨rfl, hbK⟩; have hw := bl2 hw hbK)
      refine bodyPost_ret (v := .bool true) (by simp [results, Try.results5, go_sem]) rfl ?_
      exact ⟨rfl, hw⟩
  · have d1 : decide ((8 : Int) < (cs.length : Int)) = true := by simp; omega
    have hw := Below.refl w.heap.size w
    clear hr hr2
    go_enter Try.func5, Try.ntmps5
    go_upto_region 2 with fail
    refine gen_w (fun W => Below w.heap.size w W) (by (repeat (first | exact Below.refl _ _ | assumption | (refine Below.alloc ?_ (by first | omega | (simp; omega) | (simp; done)) _) | (refine Below.setCell ?_ (by first | omega | (simp; omega) | (simp; done)) _) | (refine Below.drew ?_) | (refine belowN ?_ _) | (refine Below.trans ?_ (Below.mono ‹Below _ _ _› (by first | omega | (simp; omega) | (simp; done))))))) ?_
    clear hw
    rintro w0 hw
    go_wp2_with (go_at_call 17; refine (known_any _).mono ?_; rintro _ WK ⟨rfl, hbK⟩; have hw := bl2 hw hbK)
    refine bodyPost_ret (v := .bool true) (by simp [results, Try.results5, go_sem]) rfl ?_
    exact ⟨rfl, hw⟩
end Go.Proofs.Ytfbnllmmoaialaa

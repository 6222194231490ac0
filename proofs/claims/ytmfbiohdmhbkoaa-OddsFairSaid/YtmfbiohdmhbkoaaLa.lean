/- The walk of the law OddsFair. -/
import Derived.Test.YtmfbiohdmhbkoaaHe
import Derived.Test.YtmfbiohdmhbkoaaRa
namespace Go.Proofs.Ytmfbiohdmhbkoaa
open Go.RowKit

set_option maxRecDepth 100000 in
set_option maxHeartbeats 4000000 in
theorem lwfair_any (a b : Int) (A : Option Addr) (c : Nat) (l : List Int) (w : World) (hz : A = none → c = 0) (hr : Sl intCell 1 w w.heap.size A l) :
    Calls Try.prog 5 #[.int .i64 a, .int .i64 b, .slice A l.length c] w fun e w' => e = .returned (.bool true) ∧ Below w.heap.size w w' := by
  obtain ⟨⟨x, y, z⟩, hx⟩ : ∃ x, fairR a b l = x := ⟨_, rfl⟩
  have HF := Lib.hid hx
  have HR := Lib.hid hr
  clear hx hr
  by_cases c1 : 200 < l.length
  · have d1 : decide ((200 : Int) < (l.length : Int)) = true := by simp; omega
    by_cases c2 : l.length ≤ 10000
    · have d2 : decide ((l.length : Int) ≤ 10000) = true := by simp; omega
      go_enter Try.func5, Try.ntmps5
      go_wp2_with (go_at_call 16; refine (known_any _).mono ?_; rintro _ W1 ⟨rfl, hb1⟩)
      go_ret
      exact ⟨rfl, hb1⟩
    · have d2 : decide ((l.length : Int) ≤ 10000) = false := by simp; omega
      by_cases c3 : 10100 < l.length
      · have d3 : decide ((10100 : Int) < (l.length : Int)) = true := by simp; omega
        go_enter Try.func5, Try.ntmps5
        go_wp2_with (go_at_call 16; refine (known_any _).mono ?_; rintro _ W1 ⟨rfl, hb1⟩)
        go_ret
        exact ⟨rfl, hb1⟩
      · have d3 : decide ((10100 : Int) < (l.length : Int)) = false := by simp; omega
        have hlen : l.length ≤ 1000000 := by omega
        go_enter Try.func5, Try.ntmps5
        go_wp2_with (first | (go_at_call 18; refine (own_any A c l _ hlen hz HR.out).mono ?_; rintro _ W1 ⟨A1, c1, rfl, hs1, -, hb1⟩) | (go_at_call 23; refine (fair_any A1 c1 l a b W1 hlen hs1).mono ?_; rw [HF.out]; rintro _ W2 ⟨rfl, hb2⟩; refine Hid.out ?_))
        have hw2 := bl2 hb1 hb2
        have HR2 := Lib.hid ((HR.out.below hw2).more hw2.size)
        clear hb1 hb2 hs1
        refine Lib.hid ?_
        go_wp2_with (go_at_call 24; refine (rfair_any A c l a b W2 hlen HR2.out).mono ?_; rw [HF.out]; rintro _ W3 ⟨rfl, hb3⟩; refine Hid.out ?_)
        have hw3 := bl2 hw2 hb3
        clear hb3
        refine Lib.hid ?_
        go_wp2_with (go_at_call 16; refine (known_any _).mono ?_; rintro _ W4 ⟨rfl, hb4⟩)
        go_ret
        exact ⟨rfl, bl2 hw3 hb4⟩
  · have d1 : decide ((200 : Int) < (l.length : Int)) = false := by simp; omega
    have d3 : decide ((10100 : Int) < (l.length : Int)) = false := by simp; omega
    have hlen : l.length ≤ 1000000 := by omega
    go_enter Try.func5, Try.ntmps5
    go_wp2_with (first | (go_at_call 18; refine (own_any A c l _ hlen hz HR.out).mono ?_; rintro _ W1 ⟨A1, c1, rfl, hs1, -, hb1⟩) | (go_at_call 23; refine (fair_any A1 c1 l a b W1 hlen hs1).mono ?_; rw [HF.out]; rintro _ W2 ⟨rfl, hb2⟩; refine Hid.out ?_))
    have hw2 := bl2 hb1 hb2
    have HR2 := Lib.hid ((HR.out.below hw2).more hw2.size)
    clear hb1 hb2 hs1
    refine Lib.hid ?_
    go_wp2_with (go_at_call 24; refine (rfair_any A c l a b W2 hlen HR2.out).mono ?_; rw [HF.out]; rintro _ W3 ⟨rfl, hb3⟩; refine Hid.out ?_)
    have hw3 := bl2 hw2 hb3
    clear hb3
    refine Lib.hid ?_
    go_wp2_with (go_at_call 16; refine (known_any _).mono ?_; rintro _ W4 ⟨rfl, hb4⟩)
    go_ret
    exact ⟨rfl, bl2 hw3 hb4⟩
end Go.Proofs.Ytmfbiohdmhbkoaa

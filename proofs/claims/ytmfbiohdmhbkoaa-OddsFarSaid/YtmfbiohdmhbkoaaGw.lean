/- odds: whether chances are valid; Not, Compare. -/
import Derived.Test.YtmfbiohdmhbkoaaGv
import Derived.Test.YtmfbiohdmhbkoaaGo
import Derived.Test.YtmfbiohdmhbkoaaGf
namespace Go.Proofs.Ytmfbiohdmhbkoaa
open Go.RowKit

theorem ent_isCh1 : Ent 97 := ent_of Try.func97 (by kernel_rfl) rfl
set_option maxRecDepth 100000 in
set_option maxHeartbeats 1000000 in
theorem isCh1_any (n d : Int) (W : World) : Calls Try.prog 97 (#[.agg #[.int .i64 n, .int .i64 d]] ++ #[]) W fun e W' => e = .returned (.bool (badC ⟨n, d⟩)) ∧ Below W.heap.size W W' := by
  by_cases h1 : d < 1
  · have HT : Hid (badC ⟨n, d⟩ = true) := (by simp [badC, okC]; omega : badC ⟨n, d⟩ = true)
    have t1 : decide (d < 1) = true := by simpa using h1
    go_enter Try.func97, Try.ntmps97
    go_wp2
    go_ret
    exact ⟨ret_bool HT.out.symm, by (repeat (first | exact Below.refl _ _ | assumption | (refine Below.alloc ?_ (by first | omega | (simp; omega) | (simp; done)) _) | (refine Below.setCell ?_ (by first | omega | (simp; omega) | (simp; done)) _) | (refine Below.drew ?_) | (refine belowN ?_ _) | (refine Below.trans ?_ (Below.mono ‹Below _ _ _› (by first | omega | (simp; omega) | (simp; done))))))⟩
  · have t1 : decide (d < 1) = false := by simpa using h1
    by_cases h2 : 1000000000000000 < d
    · have HT : Hid (badC ⟨n, d⟩ = true) := (by simp [badC, okC]; omega : badC ⟨n, d⟩ = true)
      have t2 : decide (1000000000000000 < d) = true := by simpa using h2
      go_enter Try.func97, Try.ntmps97
      go_wp2
      go_ret
      exact ⟨ret_bool HT.out.symm, by (repeat (first | exact Below.refl _ _ | assumption | (refine Below.alloc ?_ (by first | omega | (simp; omega) | (simp; done)) _) | (refine Below.setCell ?_ (by first | omega | (simp; omega) | (simp; done)) _) | (refine Below.drew ?_) | (refine belowN ?_ _) | (refine Below.trans ?_ (Below.mono ‹Below _ _ _› (by first | omega | (simp; omega) | (simp; done))))))⟩
    · have t2 : decide (1000000000000000 < d) = false := by simpa using h2
      by_cases h3 : n < 0
      · have HT : Hid (badC ⟨n, d⟩ = true) := (by simp [badC, okC]; omega : badC ⟨n, d⟩ = true)
        have t3 : decide (n < 0) = true := by simpa using h3
        go_enter Try.func97, Try.ntmps97
        go_wp2
        go_ret
        exact ⟨ret_bool HT.out.symm, by (repeat (first | exact Below.refl _ _ | assumption | (refine Below.alloc ?_ (by first | omega | (simp; omega) | (simp; done)) _) | (refine Below.setCell ?_ (by first | omega | (simp; omega) | (simp; done)) _) | (refine Below.drew ?_) | (refine belowN ?_ _) | (refine Below.trans ?_ (Below.mono ‹Below _ _ _› (by first | omega | (simp; omega) | (simp; done))))))⟩
      · have t3 : decide (n < 0) = false := by simpa using h3
        by_cases h4 : d < n
        · have HT : Hid (badC ⟨n, d⟩ = true) := (by simp [badC, okC]; omega : badC ⟨n, d⟩ = true)
          have t4 : decide (d < n) = true := by simpa using h4
          go_enter Try.func97, Try.ntmps97
          go_wp2
          go_ret
          exact ⟨ret_bool HT.out.symm, by (repeat (first | exact Below.refl _ _ | assumption | (refine Below.alloc ?_ (by first | omega | (simp; omega) | (simp; done)) _) | (refine Below.setCell ?_ (by first | omega | (simp; omega) | (simp; done)) _) | (refine Below.drew ?_) | (refine belowN ?_ _) | (refine Below.trans ?_ (Below.mono ‹Below _ _ _› (by first | omega | (simp; omega) | (simp; done))))))⟩
        · have t4 : decide (d < n) = false := by simpa using h4
          have HT : Hid (badC ⟨n, d⟩ = (gI n d != 1)) := (by
            have e : okC ⟨n, d⟩ = decide (gI n d = 1) := by simp [okC]; omega
            rw [badC, e]; simp only [bne]; rfl : badC ⟨n, d⟩ = (gI n d != 1))
          have HG := Lib.hid (fun W b h => gcd2_any n d W b h (by omega) (by omega) (by omega) (by omega))
          obtain ⟨g, hg⟩ : ∃ g, g = gI n d := ⟨_, rfl⟩
          rw [← hg] at HG HT
          clear hg h1 h2 h3 h4
          go_enter Try.func97, Try.ntmps97
          go_wp2_with (go_at_call 62; refine (HG.out _ _ (by simp)).mono ?_; rintro _ w1 ⟨rfl, hb1⟩)
          go_ret
          exact ⟨ret_bool HT.out.symm, by (repeat (first | exact Below.refl _ _ | assumption | (refine Below.alloc ?_ (by first | omega | (simp; omega) | (simp; done)) _) | (refine Below.setCell ?_ (by first | omega | (simp; omega) | (simp; done)) _) | (refine Below.drew ?_) | (refine belowN ?_ _) | (refine Below.trans ?_ (Below.mono ‹Below _ _ _› (by first | omega | (simp; omega) | (simp; done))))))⟩
theorem isCh_any (A : Option Addr) (c : Nat) (ts : List Ch) (w : World) (hl : ts.length ≤ 1000000) (hr : Sl Ch.cells 2 w w.heap.size A ts) :
    Calls Try.prog 78 #[.slice A ts.length c] w fun e w' => e = .returned (.bool (!(ts.any badC))) ∧ Below w.heap.size w w' := by
  have HA := Lib.hid (chsany_any 97 #[] A c ts badC w ent_isCh1 hl hr (fun t _ W' _ => isCh1_any t.n t.d W'))
  clear hr
  go_enter Try.func78, Try.ntmps78
  go_wp2_with (go_at_call 96; refine HA.out.mono ?_; rintro _ w1 ⟨rfl, hb1⟩)
  go_ret
  exact ⟨rfl, hb1⟩
theorem isCh1of_any (a : Ch) (W : World) (b : Nat) (h0 : b = W.heap.size) :
    Calls Try.prog 78 #[.slice (some ⟨b, 0, none⟩) 1 1] (W.alloc (.cells #[.int .i64 a.n, .int .i64 a.d] 51)) fun e w' => e = .returned (.bool (okC a)) ∧ Below W.heap.size W w' := by
  subst h0
  have h := isCh_any (some ⟨W.heap.size, 0, none⟩) 1 [a] (W.alloc (.cells #[.int .i64 a.n, .int .i64 a.d] 51)) (by simp) (sl_one (Blk.new W _ _) rfl rfl)
  rw [any_one] at h
  exact h.mono fun _ _ ⟨h1, h2⟩ => ⟨h1, bl3 (Below.refl _ _) h2⟩
theorem isCh2of_any (a b : Ch) (W : World) (k : Nat) (h0 : k = W.heap.size) :
    Calls Try.prog 78 #[.slice (some ⟨k, 0, none⟩) 2 2] (W.alloc (.cells #[.int .i64 a.n, .int .i64 a.d, .int .i64 b.n, .int .i64 b.d] 51)) fun e w' => e = .returned (.bool (okP a b)) ∧ Below W.heap.size W w' := by
  subst h0
  have h := isCh_any (some ⟨W.heap.size, 0, none⟩) 2 [a, b] (W.alloc (.cells #[.int .i64 a.n, .int .i64 a.d, .int .i64 b.n, .int .i64 b.d] 51)) (by simp) (sl_one (Blk.new W _ _) rfl rfl)
  rw [any_two] at h
  exact h.mono fun _ _ ⟨h1, h2⟩ => ⟨h1, bl3 (Below.refl _ _) h2⟩
end Go.Proofs.Ytmfbiohdmhbkoaa

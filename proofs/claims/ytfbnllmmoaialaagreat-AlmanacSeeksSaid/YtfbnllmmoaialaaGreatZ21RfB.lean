/- almanac: the reference's Lunar, Begins, First. (Printed by a program.) -/
import Derived.Test.YtfbnllmmoaialaaGreatZ20He
import Derived.Test.YtfbnllmmoaialaaGreatAi
import Derived.Test.YtfbnllmmoaialaaGreatZ11Ao
import Derived.Laws.BitsAllLaws
import Derived.Test.YtfbnllmmoaialaaGreatBe
import Derived.Test.YtfbnllmmoaialaaGreatZ12Aq
namespace Go.Proofs.YtfbnllmmoaialaaGreat
open Go.RowKit

set_option maxRecDepth 100000 in
set_option maxHeartbeats 4000000 in
theorem rlunar_any (d p f m y s l : Int) (w : World) : Calls Tryz.prog 55 #[.agg #[.int .i64 d, .int .i64 p, .int .i64 f, .int .i64 m, .int .i64 y, .int .i64 s, .int .i64 l]] w fun en w' => en = .returned (.bool (lunB ⟨d, p, f, m, y, s, l⟩)) ∧ Below w.heap.size w w' := by
  cases h1 : inB p 1 100000 with
  | false =>
    have H1 := Lib.hid (fun W => rin_val h1 W)
    have HT : Hid (lunB ⟨d, p, f, m, y, s, l⟩ = false) := (by simp [lunB, h1] : lunB ⟨d, p, f, m, y, s, l⟩ = false)
    clear h1
    go_enter Tryz.func55, Tryz.ntmps55
    go_wp2_with (first | (go_at_call 31; (with_reducible refine (H1.out _).mono ?_); rintro _ _ ⟨rfl, rfl⟩) | (go_at_call 31; (with_reducible refine (H2.out _).mono ?_); rintro _ _ ⟨rfl, rfl⟩) | (go_at_call 31; (with_reducible refine (H3.out _).mono ?_); rintro _ _ ⟨rfl, rfl⟩) | (go_at_call 31; (with_reducible refine (H4.out _).mono ?_); rintro _ _ ⟨rfl, rfl⟩) | (go_at_call 31; (with_reducible refine (H5.out _).mono ?_); rintro _ _ ⟨rfl, rfl⟩) | (go_at_call 31; (with_reducible refine (H6.out _).mono ?_); rintro _ _ ⟨rfl, rfl⟩) | (go_at_call 31; (with_reducible refine (H7.out _).mono ?_); rintro _ _ ⟨rfl, rfl⟩))
    go_ret
    exact ⟨ret_bool HT.out.symm, by (repeat (first | exact Below.refl _ _ | assumption | (refine Below.alloc ?_ (by first | omega | (simp; omega) | (simp; done)) _) | (refine Below.setCell ?_ (by first | omega | (simp; omega) | (simp; done)) _) | (refine Below.drew ?_) | (refine belowN ?_ _) | (refine Below.trans ?_ (Below.mono ‹Below _ _ _› (by first | omega | (simp; omega) | (simp; done))))))⟩
  | true =>
    have H1 := Lib.hid (fun W => rin_val h1 W)
    have b1 := inB_iff.1 h1
    cases h2 : inB d (27 * p) (31 * p) with
    | false =>
      have H2 := Lib.hid (fun W => rin_val h2 W)
      have HT : Hid (lunB ⟨d, p, f, m, y, s, l⟩ = false) := (by simp [lunB, h1, h2] : lunB ⟨d, p, f, m, y, s, l⟩ = false)
      clear h1 h2
      go_enter Tryz.func55, Tryz.ntmps55
      go_wp2_with (first | (go_at_call 31; (with_reducible refine (H1.out _).mono ?_); rintro _ _ ⟨rfl, rfl⟩) | (go_at_call 31; (with_reducible refine (H2.out _).mono ?_); rintro _ _ ⟨rfl, rfl⟩) | (go_at_call 31; (with_reducible refine (H3.out _).mono ?_); rintro _ _ ⟨rfl, rfl⟩) | (go_at_call 31; (with_reducible refine (H4.out _).mono ?_); rintro _ _ ⟨rfl, rfl⟩) | (go_at_call 31; (with_reducible refine (H5.out _).mono ?_); rintro _ _ ⟨rfl, rfl⟩) | (go_at_call 31; (with_reducible refine (H6.out _).mono ?_); rintro _ _ ⟨rfl, rfl⟩) | (go_at_call 31; (with_reducible refine (H7.out _).mono ?_); rintro _ _ ⟨rfl, rfl⟩))
      go_ret
      exact ⟨ret_bool HT.out.symm, by (repeat (first | exact Below.refl _ _ | assumption | (refine Below.alloc ?_ (by first | omega | (simp; omega) | (simp; done)) _) | (refine Below.setCell ?_ (by first | omega | (simp; omega) | (simp; done)) _) | (refine Below.drew ?_) | (refine belowN ?_ _) | (refine Below.trans ?_ (Below.mono ‹Below _ _ _› (by first | omega | (simp; omega) | (simp; done))))))⟩
    | true =>
      have H2 := Lib.hid (fun W => rin_val h2 W)
      cases h3 : inB f 0 (p - 1) with
      | false =>
        have H3 := Lib.hid (fun W => rin_val h3 W)
        have HT : Hid (lunB ⟨d, p, f, m, y, s, l⟩ = false) := (by simp [lunB, h1, h2, h3] : lunB ⟨d, p, f, m, y, s, l⟩ = false)
        clear h1 h2 h3
        go_enter Tryz.func55, Tryz.ntmps55
        go_wp2_with (first | (go_at_call 31; (with_reducible refine (H1.out _).mono ?_); rintro _ _ ⟨rfl, rfl⟩) | (go_at_call 31; (with_reducible refine (H2.out _).mono ?_); rintro _ _ ⟨rfl, rfl⟩) | (go_at_call 31; (with_reducible refine (H3.out _).mono ?_); rintro _ _ ⟨rfl, rfl⟩) | (go_at_call 31; (with_reducible refine (H4.out _).mono ?_); rintro _ _ ⟨rfl, rfl⟩) | (go_at_call 31; (with_reducible refine (H5.out _).mono ?_); rintro _ _ ⟨rfl, rfl⟩) | (go_at_call 31; (with_reducible refine (H6.out _).mono ?_); rintro _ _ ⟨rfl, rfl⟩) | (go_at_call 31; (with_reducible refine (H7.out _).mono ?_); rintro _ _ ⟨rfl, rfl⟩))
        go_ret
        exact ⟨ret_bool HT.out.symm, by (repeat (first | exact Below.refl _ _ | assumption | (refine Below.alloc ?_ (by first | omega | (simp; omega) | (simp; done)) _) | (refine Below.setCell ?_ (by first | omega | (simp; omega) | (simp; done)) _) | (refine Below.drew ?_) | (refine belowN ?_ _) | (refine Below.trans ?_ (Below.mono ‹Below _ _ _› (by first | omega | (simp; omega) | (simp; done))))))⟩
      | true =>
        have H3 := Lib.hid (fun W => rin_val h3 W)
        cases h4 : inB y 1 100000 with
        | false =>
          have H4 := Lib.hid (fun W => rin_val h4 W)
          have HT : Hid (lunB ⟨d, p, f, m, y, s, l⟩ = false) := (by simp [lunB, h1, h2, h3, h4] : lunB ⟨d, p, f, m, y, s, l⟩ = false)
          clear h1 h2 h3 h4
          go_enter Tryz.func55, Tryz.ntmps55
          go_wp2_with (first | (go_at_call 31; (with_reducible refine (H1.out _).mono ?_); rintro _ _ ⟨rfl, rfl⟩) | (go_at_call 31; (with_reducible refine (H2.out _).mono ?_); rintro _ _ ⟨rfl, rfl⟩) | (go_at_call 31; (with_reducible refine (H3.out _).mono ?_); rintro _ _ ⟨rfl, rfl⟩) | (go_at_call 31; (with_reducible refine (H4.out _).mono ?_); rintro _ _ ⟨rfl, rfl⟩) | (go_at_call 31; (with_reducible refine (H5.out _).mono ?_); rintro _ _ ⟨rfl, rfl⟩) | (go_at_call 31; (with_reducible refine (H6.out _).mono ?_); rintro _ _ ⟨rfl, rfl⟩) | (go_at_call 31; (with_reducible refine (H7.out _).mono ?_); rintro _ _ ⟨rfl, rfl⟩))
          go_ret
          exact ⟨ret_bool HT.out.symm, by (repeat (first | exact Below.refl _ _ | assumption | (refine Below.alloc ?_ (by first | omega | (simp; omega) | (simp; done)) _) | (refine Below.setCell ?_ (by first | omega | (simp; omega) | (simp; done)) _) | (refine Below.drew ?_) | (refine belowN ?_ _) | (refine Below.trans ?_ (Below.mono ‹Below _ _ _› (by first | omega | (simp; omega) | (simp; done))))))⟩
        | true =>
          have H4 := Lib.hid (fun W => rin_val h4 W)
          have b4 := inB_iff.1 h4
          cases h5 : inB m (12 * y) (13 * y) with
          | false =>
            have H5 := Lib.hid (fun W => rin_val h5 W)
            have HT : Hid (lunB ⟨d, p, f, m, y, s, l⟩ = false) := (by simp [lunB, h1, h2, h3, h4, h5] : lunB ⟨d, p, f, m, y, s, l⟩ = false)
            clear h1 h2 h3 h4 h5
            go_enter Tryz.func55, Tryz.ntmps55
            go_wp2_with (first | (go_at_call 31; (with_reducible refine (H1.out _).mono ?_); rintro _ _ ⟨rfl, rfl⟩) | (go_at_call 31; (with_reducible refine (H2.out _).mono ?_); rintro _ _ ⟨rfl, rfl⟩) | (go_at_call 31; (with_reducible refine (H3.out _).mono ?_); rintro _ _ ⟨rfl, rfl⟩) | (go_at_call 31; (with_reducible refine (H4.out _).mono ?_); rintro _ _ ⟨rfl, rfl⟩) | (go_at_call 31; (with_reducible refine (H5.out _).mono ?_); rintro _ _ ⟨rfl, rfl⟩) | (go_at_call 31; (with_reducible refine (H6.out _).mono ?_); rintro _ _ ⟨rfl, rfl⟩) | (go_at_call 31; (with_reducible refine (H7.out _).mono ?_); rintro _ _ ⟨rfl, rfl⟩))
            go_ret
            exact ⟨ret_bool HT.out.symm, by (repeat (first | exact Below.refl _ _ | assumption | (refine Below.alloc ?_ (by first | omega | (simp; omega) | (simp; done)) _) | (refine Below.setCell ?_ (by first | omega | (simp; omega) | (simp; done)) _) | (refine Below.drew ?_) | (refine belowN ?_ _) | (refine Below.trans ?_ (Below.mono ‹Below _ _ _› (by first | omega | (simp; omega) | (simp; done))))))⟩
          | true =>
            have H5 := Lib.hid (fun W => rin_val h5 W)
            cases h6 : inB s 0 (y - 1) with
            | false =>
              have H6 := Lib.hid (fun W => rin_val h6 W)
              have HT : Hid (lunB ⟨d, p, f, m, y, s, l⟩ = false) := (by simp [lunB, h1, h2, h3, h4, h5, h6] : lunB ⟨d, p, f, m, y, s, l⟩ = false)
              clear h1 h2 h3 h4 h5 h6
              go_enter Tryz.func55, Tryz.ntmps55
              go_wp2_with (first | (go_at_call 31; (with_reducible refine (H1.out _).mono ?_); rintro _ _ ⟨rfl, rfl⟩) | (go_at_call 31; (with_reducible refine (H2.out _).mono ?_); rintro _ _ ⟨rfl, rfl⟩) | (go_at_call 31; (with_reducible refine (H3.out _).mono ?_); rintro _ _ ⟨rfl, rfl⟩) | (go_at_call 31; (with_reducible refine (H4.out _).mono ?_); rintro _ _ ⟨rfl, rfl⟩) | (go_at_call 31; (with_reducible refine (H5.out _).mono ?_); rintro _ _ ⟨rfl, rfl⟩) | (go_at_call 31; (with_reducible refine (H6.out _).mono ?_); rintro _ _ ⟨rfl, rfl⟩) | (go_at_call 31; (with_reducible refine (H7.out _).mono ?_); rintro _ _ ⟨rfl, rfl⟩))
              go_ret
              exact ⟨ret_bool HT.out.symm, by (repeat (first | exact Below.refl _ _ | assumption | (refine Below.alloc ?_ (by first | omega | (simp; omega) | (simp; done)) _) | (refine Below.setCell ?_ (by first | omega | (simp; omega) | (simp; done)) _) | (refine Below.drew ?_) | (refine belowN ?_ _) | (refine Below.trans ?_ (Below.mono ‹Below _ _ _› (by first | omega | (simp; omega) | (simp; done))))))⟩
            | true =>
              have H6 := Lib.hid (fun W => rin_val h6 W)
              cases h7 : inB l 1 12 with
              | false =>
                have H7 := Lib.hid (fun W => rin_val h7 W)
                have HT : Hid (lunB ⟨d, p, f, m, y, s, l⟩ = false) := (by simp [lunB, h1, h2, h3, h4, h5, h6, h7] : lunB ⟨d, p, f, m, y, s, l⟩ = false)
                clear h1 h2 h3 h4 h5 h6 h7
                go_enter Tryz.func55, Tryz.ntmps55
                go_wp2_with (first | (go_at_call 31; (with_reducible refine (H1.out _).mono ?_); rintro _ _ ⟨rfl, rfl⟩) | (go_at_call 31; (with_reducible refine (H2.out _).mono ?_); rintro _ _ ⟨rfl, rfl⟩) | (go_at_call 31; (with_reducible refine (H3.out _).mono ?_); rintro _ _ ⟨rfl, rfl⟩) | (go_at_call 31; (with_reducible refine (H4.out _).mono ?_); rintro _ _ ⟨rfl, rfl⟩) | (go_at_call 31; (with_reducible refine (H5.out _).mono ?_); rintro _ _ ⟨rfl, rfl⟩) | (go_at_call 31; (with_reducible refine (H6.out _).mono ?_); rintro _ _ ⟨rfl, rfl⟩) | (go_at_call 31; (with_reducible refine (H7.out _).mono ?_); rintro _ _ ⟨rfl, rfl⟩))
                go_ret
                exact ⟨ret_bool HT.out.symm, by (repeat (first | exact Below.refl _ _ | assumption | (refine Below.alloc ?_ (by first | omega | (simp; omega) | (simp; done)) _) | (refine Below.setCell ?_ (by first | omega | (simp; omega) | (simp; done)) _) | (refine Below.drew ?_) | (refine belowN ?_ _) | (refine Below.trans ?_ (Below.mono ‹Below _ _ _› (by first | omega | (simp; omega) | (simp; done))))))⟩
              | true =>
                have H7 := Lib.hid (fun W => rin_val h7 W)
                have HT : Hid (lunB ⟨d, p, f, m, y, s, l⟩ = true) := (by simp [lunB, h1, h2, h3, h4, h5, h6, h7] : lunB ⟨d, p, f, m, y, s, l⟩ = true)
                clear h1 h2 h3 h4 h5 h6 h7
                go_enter Tryz.func55, Tryz.ntmps55
                go_wp2_with (first | (go_at_call 31; (with_reducible refine (H1.out _).mono ?_); rintro _ _ ⟨rfl, rfl⟩) | (go_at_call 31; (with_reducible refine (H2.out _).mono ?_); rintro _ _ ⟨rfl, rfl⟩) | (go_at_call 31; (with_reducible refine (H3.out _).mono ?_); rintro _ _ ⟨rfl, rfl⟩) | (go_at_call 31; (with_reducible refine (H4.out _).mono ?_); rintro _ _ ⟨rfl, rfl⟩) | (go_at_call 31; (with_reducible refine (H5.out _).mono ?_); rintro _ _ ⟨rfl, rfl⟩) | (go_at_call 31; (with_reducible refine (H6.out _).mono ?_); rintro _ _ ⟨rfl, rfl⟩) | (go_at_call 31; (with_reducible refine (H7.out _).mono ?_); rintro _ _ ⟨rfl, rfl⟩))
                go_ret
                exact ⟨ret_bool HT.out.symm, by (repeat (first | exact Below.refl _ _ | assumption | (refine Below.alloc ?_ (by first | omega | (simp; omega) | (simp; done)) _) | (refine Below.setCell ?_ (by first | omega | (simp; omega) | (simp; done)) _) | (refine Below.drew ?_) | (refine belowN ?_ _) | (refine Below.trans ?_ (Below.mono ‹Below _ _ _› (by first | omega | (simp; omega) | (simp; done))))))⟩
theorem rlunar_val {d p f m y s l : Int} {v : Bool} (h : lunB ⟨d, p, f, m, y, s, l⟩ = v) (w : World) : Calls Tryz.prog 55 #[.agg #[.int .i64 d, .int .i64 p, .int .i64 f, .int .i64 m, .int .i64 y, .int .i64 s, .int .i64 l]] w fun en w' => en = .returned (.bool v) ∧ Below w.heap.size w w' := h ▸ rlunar_any d p f m y s l w
theorem rbegins_any (d p f m y s l n : Int) (w : World) (ok : LunOk ⟨d, p, f, m, y, s, l⟩) (n0 : 0 ≤ n) (n1 : n ≤ 3000000) : Calls Tryz.prog 92 #[.agg #[.int .i64 d, .int .i64 p, .int .i64 f, .int .i64 m, .int .i64 y, .int .i64 s, .int .i64 l], .int .i64 n] w fun en w' => en = .returned (.int .i64 (BI ⟨d, p, f, m, y, s, l⟩ n)) ∧ Below w.heap.size w w' := by
  obtain ⟨⟨b0, b1⟩, b2, b3⟩ := BI_bd ok n0 n1
  obtain ⟨⟨p0, p1⟩, ⟨d0, d1⟩, ⟨f0, f1⟩, ⟨y0, y1⟩, ⟨m0, m1⟩, ⟨s0, s1⟩, -⟩ := ok
  simp only at p0 p1 d0 d1 f0 f1 y0 y1 m0 m1 s0 s1 b0 b1
  have hd : BI ⟨d, p, f, m, y, s, l⟩ n = (d * n + f) / p := rfl
  obtain ⟨x, hx⟩ : ∃ x, x = BI ⟨d, p, f, m, y, s, l⟩ n := ⟨_, rfl⟩
  rw [← hx] at hd b2 b3 ⊢
  have w1 : IntKind.i64.wrap (d * n) = d * n := IntWalk.i64_in _ ⟨by omega, by omega⟩
  have w2 : IntKind.i64.wrap (d * n + f) = d * n + f := IntWalk.i64_in _ ⟨by omega, by omega⟩
  have w3 : IntKind.i64.wrap ((d * n + f).tdiv p) = x := by rw [Int.tdiv_eq_ediv_of_nonneg (by omega), ← hd]; exact IntWalk.i64_in _ ⟨by omega, by omega⟩
  have z0 : (p == 0) = false := by simp; omega
  clear hd hx
  go_enter Tryz.func92, Tryz.ntmps92
  go_wp2
  go_ret
  exact ⟨rfl, by (repeat (first | exact Below.refl _ _ | assumption | (refine Below.alloc ?_ (by first | omega | (simp; omega) | (simp; done)) _) | (refine Below.setCell ?_ (by first | omega | (simp; omega) | (simp; done)) _) | (refine Below.drew ?_) | (refine belowN ?_ _) | (refine Below.trans ?_ (Below.mono ‹Below _ _ _› (by first | omega | (simp; omega) | (simp; done))))))⟩
theorem rfirst_any (d p f m y s l n : Int) (w : World) (ok : LunOk ⟨d, p, f, m, y, s, l⟩) (n0 : 0 ≤ n) (n1 : n ≤ 3000000) : Calls Tryz.prog 93 #[.agg #[.int .i64 d, .int .i64 p, .int .i64 f, .int .i64 m, .int .i64 y, .int .i64 s, .int .i64 l], .int .i64 n] w fun en w' => en = .returned (.int .i64 (FI ⟨d, p, f, m, y, s, l⟩ n)) ∧ Below w.heap.size w w' := by
  obtain ⟨⟨b0, b1⟩, b2, b3⟩ := FI_bd ok n0 n1
  obtain ⟨⟨p0, p1⟩, ⟨d0, d1⟩, ⟨f0, f1⟩, ⟨y0, y1⟩, ⟨m0, m1⟩, ⟨s0, s1⟩, -⟩ := ok
  simp only at p0 p1 d0 d1 f0 f1 y0 y1 m0 m1 s0 s1 b0 b1
  have hd : FI ⟨d, p, f, m, y, s, l⟩ n = (m * n + s) / y := rfl
  obtain ⟨x, hx⟩ : ∃ x, x = FI ⟨d, p, f, m, y, s, l⟩ n := ⟨_, rfl⟩
  rw [← hx] at hd b2 b3 ⊢
  have w1 : IntKind.i64.wrap (m * n) = m * n := IntWalk.i64_in _ ⟨by omega, by omega⟩
  have w2 : IntKind.i64.wrap (m * n + s) = m * n + s := IntWalk.i64_in _ ⟨by omega, by omega⟩
  have w3 : IntKind.i64.wrap ((m * n + s).tdiv y) = x := by rw [Int.tdiv_eq_ediv_of_nonneg (by omega), ← hd]; exact IntWalk.i64_in _ ⟨by omega, by omega⟩
  have z0 : (y == 0) = false := by simp; omega
  clear hd hx
  go_enter Tryz.func93, Tryz.ntmps93
  go_wp2
  go_ret
  exact ⟨rfl, by (repeat (first | exact Below.refl _ _ | assumption | (refine Below.alloc ?_ (by first | omega | (simp; omega) | (simp; done)) _) | (refine Below.setCell ?_ (by first | omega | (simp; omega) | (simp; done)) _) | (refine Below.drew ?_) | (refine belowN ?_ _) | (refine Below.trans ?_ (Below.mono ‹Below _ _ _› (by first | omega | (simp; omega) | (simp; done))))))⟩
end Go.Proofs.YtfbnllmmoaialaaGreat
namespace Go.Proofs.YtfbnllmmoaialaaGreat
open Go.RowKit

/-- a set has only numbers from lo to hi -/
def setB (st lo hi : Int) : Bool := (List.range 64).all fun n : Nat => !(bitB st n) || inB n lo hi
theorem and_zero_iff {a b : Nat} : a &&& b = 0 ↔ ∀ n, a.testBit n = true → b.testBit n = false := by
  constructor
  · intro h n hn
    have h1 : (a &&& b).testBit n = false := by rw [h]; exact Nat.zero_testBit n
    rw [Nat.testBit_and, hn, Bool.true_and] at h1
    exact h1
  · intro h
    refine Nat.eq_of_testBit_eq fun n => ?_
    rw [Nat.testBit_and, Nat.zero_testBit]
    cases ha : a.testBit n with
    | false => rfl
    | true => rw [h n ha]; rfl
theorem subB_set {st lo hi : Int} {m : Nat} (hs : 0 ≤ st ∧ st < 18446744073709551616) (hm : m < 18446744073709551616) (hb : ∀ n, n < 64 → m.testBit n = inB n lo hi) : subB st m = setB st lo hi := by
  obtain ⟨S, rfl⟩ := Int.eq_ofNat_of_zero_le hs.1
  have hS : S < 2 ^ 64 := by omega
  have h1 : subB (S : Int) m = decide (S &&& (18446744073709551615 - m) = 0) := by
    unfold subB
    rw [u64_andNot_nat S m (by omega) hm]
    exact decide_eq_decide.2 (by omega)
  rw [h1]
  have hmm : ∀ n, n < 64 → (18446744073709551615 - m).testBit n = !(inB n lo hi) := fun n hn => by
    have h2 := Nat.testBit_two_pow_sub_succ (x := m) (n := 64) (by omega) n
    rw [show (2 : Nat) ^ 64 - (m + 1) = 18446744073709551615 - m by omega] at h2
    rw [h2, hb n hn]
    simp [hn]
  unfold setB bitB
  rw [Int.toNat_natCast]
  cases h3 : ((List.range 64).all fun n : Nat => !(S.testBit n) || inB (n : Int) lo hi) with
  | true =>
    refine decide_eq_true (and_zero_iff.2 fun n hn => ?_)
    have hn64 : n < 64 := by
      rcases Nat.lt_or_ge n 64 with h | h
      · exact h
      · rw [Nat.testBit_lt_two_pow (Nat.lt_of_lt_of_le hS (Nat.pow_le_pow_right (by omega) h))] at hn; cases hn
    have h4 := List.all_eq_true.1 h3 n (List.mem_range.2 hn64)
    rw [hn] at h4
    rw [hmm n hn64]
    simpa using h4
  | false =>
    refine decide_eq_false fun h => ?_
    rw [List.all_eq_false] at h3
    obtain ⟨n, hn, h4⟩ := h3
    have hn64 := List.mem_range.1 hn
    simp only [Bool.not_eq_true, Bool.or_eq_false_iff, Bool.not_eq_false'] at h4
    have h5 := and_zero_iff.1 h n h4.1
    rw [hmm n hn64, h4.2] at h5
    cases h5
theorem sub12 {st : Int} (hs : 0 ≤ st ∧ st < 18446744073709551616) : subB st 8190 = setB st 1 12 := subB_set (m := 8190) hs (by decide) (by decide +kernel)
theorem sub31 {st : Int} (hs : 0 ≤ st ∧ st < 18446744073709551616) : subB st 4294967294 = setB st 1 31 := subB_set (m := 4294967294) hs (by decide) (by decide +kernel)
theorem sub0 {st : Int} (hs : 0 ≤ st ∧ st < 18446744073709551616) : subB st 0 = (st == 0) := by
  obtain ⟨S, rfl⟩ := Int.eq_ofNat_of_zero_le hs.1
  unfold subB
  rw [show (0 : Int) = ((0 : Nat) : Int) from rfl, u64_andNot_nat S 0 (by omega) (by decide)]
  have h1 : S &&& (18446744073709551615 - 0) = S := by
    refine Nat.eq_of_testBit_eq fun n => ?_
    rw [Nat.testBit_and, show (18446744073709551615 : Nat) - 0 = 2 ^ 64 - 1 by decide, Nat.testBit_two_pow_sub_one]
    rcases Nat.lt_or_ge n 64 with h | h
    · simp [h]
    · rw [Nat.testBit_lt_two_pow (Nat.lt_of_lt_of_le (show S < 2 ^ 64 by omega) (Nat.pow_le_pow_right (by omega) h))]; rfl
  rw [h1]
theorem subL {st l : Int} (hs : 0 ≤ st ∧ st < 18446744073709551616) (l1 : 1 ≤ l) (l2 : l ≤ 64) : subB st (18446744073709551615 / 2 ^ (64 - l).toNat) = setB st 0 (l - 1) := by
  obtain ⟨L, rfl⟩ := Int.eq_ofNat_of_zero_le (show 0 ≤ l by omega)
  have e1 : ((18446744073709551615 : Int) / 2 ^ (64 - (L : Int)).toNat) = ((18446744073709551615 / 2 ^ (64 - L) : Nat) : Int) := by
    rw [show (64 - (L : Int)).toNat = 64 - L by omega]
    simp
  rw [e1]
  refine subB_set hs (Nat.lt_of_le_of_lt (Nat.div_le_self _ _) (by decide)) fun n hn => ?_
  rw [Nat.testBit_div_two_pow, show (18446744073709551615 : Nat) = 2 ^ 64 - 1 by decide, Nat.testBit_two_pow_sub_one]
  exact decide_eq_decide.2 (by omega)
theorem setB_bit {S n : Nat} : bitB (S : Int) n = (((S / 2 ^ n % 2 : Nat) : Int) == 1) := by
  unfold bitB
  rw [Int.toNat_natCast, Nat.testBit_eq_decide_div_mod_eq]
  by_cases h : S / 2 ^ n % 2 = 1
  · rw [h]; rfl
  · have h0 : S / 2 ^ n % 2 = 0 := by omega
    rw [h0]; rfl
set_option maxRecDepth 100000 in
set_option maxHeartbeats 4000000 in
theorem rset_any (st lo hi : Int) (w : World) (hs : 0 ≤ st ∧ st < 18446744073709551616) : Calls Tryz.prog 88 #[.int .u64 st, .int .i64 lo, .int .i64 hi] w fun e w' => e = .returned (.bool (setB st lo hi)) ∧ Below w.heap.size w w' := by
  obtain ⟨S, rfl⟩ := Int.eq_ofNat_of_zero_le hs.1
  have hS : S < 18446744073709551616 := by omega
  clear hs
  go_enter Tryz.func88, Tryz.ntmps88
  go_upto_region 2 with fail
  go_loopw [7] (fun i wr => ∃ k : Nat, k ≤ 64 ∧ i = .int .i64 k ∧ Hid (∀ n, n < k → bitB (S : Int) n = true → inB n lo hi = true) ∧ Below w.heap.size w wr) (fun i _ => 64 - (intOf i).toNat)
  case atStart => exact ⟨0, by omega, rfl, (fun n hn => absurd hn (by omega) : ∀ n, n < 0 → bitB (S : Int) n = true → inB n lo hi = true), Below.refl _ _⟩
  case round =>
    obtain ⟨k, hk, rfl, HA, hb⟩ := hrel
    by_cases hlt : k < 64
    · have t1 : decide ((k : Int) < 64) = true := by simp; omega
      have q1 := u64bit S k hS
      have HBT := Lib.hid (setB_bit (S := S) (n := k))
      have hd : S / 2 ^ k % 2 = 0 ∨ S / 2 ^ k % 2 = 1 := by omega
      obtain ⟨z, hz⟩ : ∃ z, z = S / 2 ^ k % 2 := ⟨_, rfl⟩
      rw [← hz] at q1 HBT hd
      clear hz
      rcases hd with rfl | rfl
      · have HA2 : Hid (∀ n, n < k + 1 → bitB (S : Int) n = true → inB n lo hi = true) := (fun n hn hbn => by
          by_cases h : n < k
          · exact HA.out n h hbn
          · obtain rfl : n = k := by omega
            rw [HBT.out] at hbn
            exact absurd hbn (by decide) : ∀ n, n < k + 1 → bitB (S : Int) n = true → inB n lo hi = true)
        go_wp2_with fail
        go_roundw
        case rel => exact ⟨k + 1, by omega, by go_num, HA2, hb⟩
        case measure => simp [intOf]; omega
      · cases hin : inB k lo hi with
        | false =>
          have HV := Lib.hid (fun W => rin_val hin W)
          have HT : Hid (setB (S : Int) lo hi = false) := (by
            unfold setB
            rw [List.all_eq_false]
            exact ⟨k, List.mem_range.2 hlt, by rw [HBT.out, hin]; decide⟩ : setB (S : Int) lo hi = false)
          clear hin
          go_wp2_with (go_at_call 31; (with_reducible refine (HV.out _).mono ?_); rintro _ _ ⟨rfl, rfl⟩)
          go_ret
          exact ⟨ret_bool HT.out.symm, hb⟩
        | true =>
          have HV := Lib.hid (fun W => rin_val hin W)
          have HA2 : Hid (∀ n, n < k + 1 → bitB (S : Int) n = true → inB n lo hi = true) := (fun n hn hbn => by
            by_cases h : n < k
            · exact HA.out n h hbn
            · obtain rfl : n = k := by omega
              exact hin : ∀ n, n < k + 1 → bitB (S : Int) n = true → inB n lo hi = true)
          clear hin
          go_wp2_with (go_at_call 31; (with_reducible refine (HV.out _).mono ?_); rintro _ _ ⟨rfl, rfl⟩)
          go_roundw
          case rel => exact ⟨k + 1, by omega, by go_num, HA2, hb⟩
          case measure => simp [intOf]; omega
    · obtain rfl : k = 64 := by omega
      have HT : Hid (setB (S : Int) lo hi = true) := (by
        unfold setB
        rw [List.all_eq_true]
        intro n hn
        have h1 := HA.out n (List.mem_range.1 hn)
        cases h2 : bitB (S : Int) n with
        | false => rfl
        | true => rw [h1 h2]; rfl : setB (S : Int) lo hi = true)
      go_wp2_with fail
      go_ret
      exact ⟨ret_bool HT.out.symm, hb⟩
theorem rset_val {st lo hi : Int} {v : Bool} (h : setB st lo hi = v) (hs : 0 ≤ st ∧ st < 18446744073709551616) (w : World) : Calls Tryz.prog 88 #[.int .u64 st, .int .i64 lo, .int .i64 hi] w fun e w' => e = .returned (.bool v) ∧ Below w.heap.size w w' := h ▸ rset_any st lo hi w hs
theorem rspan_any (a b : Int) (w : World) : Calls Tryz.prog 12 #[.int .i64 a, .int .i64 b] w fun e w' => e = .returned (.bool (spanB a b)) ∧ Below w.heap.size w w' := by
  cases h1 : inB a 0 1000000 with
  | false =>
    have HA := Lib.hid (fun W => rday_val h1 W)
    have HT : Hid (spanB a b = false) := (by simp [spanB, h1] : spanB a b = false)
    clear h1
    go_enter Tryz.func12, Tryz.ntmps12
    go_wp2_with (go_at_call 30; (with_reducible refine (HA.out _).mono ?_); rintro _ _ ⟨rfl, rfl⟩)
    go_ret
    exact ⟨ret_bool HT.out.symm, by (repeat (first | exact Below.refl _ _ | assumption | (refine Below.alloc ?_ (by first | omega | (simp; omega) | (simp; done)) _) | (refine Below.setCell ?_ (by first | omega | (simp; omega) | (simp; done)) _) | (refine Below.drew ?_) | (refine belowN ?_ _) | (refine Below.trans ?_ (Below.mono ‹Below _ _ _› (by first | omega | (simp; omega) | (simp; done))))))⟩
  | true =>
    have a1 := inB_iff.1 h1
    cases h2 : inB b 0 1000000 with
    | false =>
      have HA := Lib.hid (fun W => rday_val h1 W)
      have HB := Lib.hid (fun W => rday_val h2 W)
      have HT : Hid (spanB a b = false) := (by simp [spanB, h2] : spanB a b = false)
      clear h1 h2
      go_enter Tryz.func12, Tryz.ntmps12
      go_wp2_with (first | (go_at_call 30; (with_reducible refine (HB.out _).mono ?_); rintro _ _ ⟨rfl, rfl⟩) | (go_at_call 30; (with_reducible refine (HA.out _).mono ?_); rintro _ _ ⟨rfl, rfl⟩))
      go_ret
      exact ⟨ret_bool HT.out.symm, by (repeat (first | exact Below.refl _ _ | assumption | (refine Below.alloc ?_ (by first | omega | (simp; omega) | (simp; done)) _) | (refine Below.setCell ?_ (by first | omega | (simp; omega) | (simp; done)) _) | (refine Below.drew ?_) | (refine belowN ?_ _) | (refine Below.trans ?_ (Below.mono ‹Below _ _ _› (by first | omega | (simp; omega) | (simp; done))))))⟩
    | true =>
      have a2 := inB_iff.1 h2
      have HA := Lib.hid (fun W => rday_val h1 W)
      have HB := Lib.hid (fun W => rday_val h2 W)
      have HT : Hid (spanB a b = inB (b - a) 0 4000) := (by simp [spanB, h1, h2] : spanB a b = inB (b - a) 0 4000)
      have w1 : IntKind.i64.wrap (b - a) = b - a := IntWalk.i64_in _ ⟨by omega, by omega⟩
      clear h1 h2
      go_enter Tryz.func12, Tryz.ntmps12
      go_wp2_with (first | (go_at_call 30; (with_reducible refine (HB.out _).mono ?_); rintro _ _ ⟨rfl, rfl⟩) | (go_at_call 30; (with_reducible refine (HA.out _).mono ?_); rintro _ _ ⟨rfl, rfl⟩) | (go_at_call 31; refine (rin_any _ _ _ _).mono ?_; rintro _ _ ⟨rfl, rfl⟩))
      go_ret
      exact ⟨ret_bool HT.out.symm, by (repeat (first | exact Below.refl _ _ | assumption | (refine Below.alloc ?_ (by first | omega | (simp; omega) | (simp; done)) _) | (refine Below.setCell ?_ (by first | omega | (simp; omega) | (simp; done)) _) | (refine Below.drew ?_) | (refine belowN ?_ _) | (refine Below.trans ?_ (Below.mono ‹Below _ _ _› (by first | omega | (simp; omega) | (simp; done))))))⟩
set_option maxRecDepth 100000 in
set_option maxHeartbeats 4000000 in
theorem ralmanac_any (A : Option Addr) (c : Nat) (l : List Cyc) (e b u d p f m y s k : Int) (w : World) (hl : l.length ≤ 9223372036854775807) (hr : Sl Cyc.cells 2 w w.heap.size A l) :
    Calls Tryz.prog 28 #[.agg #[.slice A l.length c, .int .i64 e, .int .i64 b, .int .i64 u, .int .i64 d, .int .i64 p, .int .i64 f, .int .i64 m, .int .i64 y, .int .i64 s, .int .i64 k]] w fun en w' => en = .returned (.bool (almB ⟨A, c, l, ⟨e, b, u⟩, ⟨d, p, f, m, y, s, k⟩⟩)) ∧ Below w.heap.size w w' := by
  have HR := Lib.hid hr
  clear hr
  go_enter Tryz.func28, Tryz.ntmps28
  go_upto_region 2 with fail
  refine gen_w (fun W => Blk W w.heap.size #[.slice A l.length c, .int .i64 e, .int .i64 b, .int .i64 u, .int .i64 d, .int .i64 p, .int .i64 f, .int .i64 m, .int .i64 y, .int .i64 s, .int .i64 k] 28 ∧ Below w.heap.size w W) ⟨Blk.at_ rfl, by (repeat (first | exact Below.refl _ _ | assumption | (refine Below.alloc ?_ (by first | omega | (simp; omega) | (simp; done)) _) | (refine Below.setCell ?_ (by first | omega | (simp; omega) | (simp; done)) _) | (refine Below.drew ?_) | (refine belowN ?_ _) | (refine Below.trans ?_ (Below.mono ‹Below _ _ _› (by first | omega | (simp; omega) | (simp; done))))))⟩ ?_
  rintro V0 ⟨ga, hw⟩
  go_loopw [3] (fun i wr => ∃ q : Nat, q ≤ l.length ∧ i = .int .i64 q ∧ Hid (∀ c ∈ l.take q, cycB c = true) ∧ Hid (Below w.heap.size w wr) ∧ Blk wr w.heap.size #[.slice A l.length c, .int .i64 e, .int .i64 b, .int .i64 u, .int .i64 d, .int .i64 p, .int .i64 f, .int .i64 m, .int .i64 y, .int .i64 s, .int .i64 k] 28) (fun i _ => l.length - (intOf i).toNat)
  case atStart => exact ⟨0, by omega, rfl, (fun _ h => (by cases h) : ∀ c ∈ l.take 0, cycB c = true), hw, ga⟩
  case round =>
    clear hw ga
    obtain ⟨q, hq, rfl, HCY, hbw, ga⟩ := hrel
    have hw := hbw.out
    clear hbw
    (have z0 := ga.cell 0; have z1 := ga.cell 1; have z2 := ga.cell 2; have z3 := ga.cell 3; have z4 := ga.cell 4; have z5 := ga.cell 5; have z6 := ga.cell 6; have z7 := ga.cell 7; have z8 := ga.cell 8; have z9 := ga.cell 9; have z10 := ga.cell 10; simp at z0 z1 z2 z3 z4 z5 z6 z7 z8 z9 z10)
    by_cases hlt : q < l.length
    · obtain ⟨ab, ao, rfl, hblk, hcell⟩ := (HR.out.below hw).at_ (k := q) (fun _ => rfl) hlt
      have HZ : Hid (l.take (q + 1) = l.take q ++ [l[q]]) := (List.take_succ_eq_append_getElem hlt : _ = _)
      have HMEM := Lib.hid (List.getElem_mem hlt)
      obtain ⟨x, hx⟩ : ∃ x, x = l[q] := ⟨_, rfl⟩
      rw [← hx] at hcell HZ HMEM
      obtain ⟨ql, qs⟩ := x
      have e0 : wr.cell? ⟨ab, ao + q * 2, none⟩ = some (.int .i64 ql) := hcell 0 _ rfl
      have e1 : wr.cell? ⟨ab, ao + q * 2 + 1, none⟩ = some (.int .i64 qs) := hcell 1 _ rfl
      have k0 : (0 : Int) ≤ (q : Int) := by omega
      have k1 : (q : Int) < (l.length : Int) := by omega
      clear hcell hx
      cases hcy : cycB ⟨ql, qs⟩ with
      | false =>
        have HC := Lib.hid (fun W => rcycle_val hcy W)
        have HT : Hid (almB ⟨some ⟨ab, ao, none⟩, c, l, ⟨e, b, u⟩, ⟨d, p, f, m, y, s, k⟩⟩ = false) := (by
          have h1 : l.all cycB = false := Bool.eq_false_iff.2 fun h => by
            have h9 := (List.all_eq_true (p := cycB)).1 h _ HMEM.out
            exact absurd (h9.symm.trans hcy) (by decide)
          simp [almB, h1] : almB _ = false)
        clear hcy
        go_wp2_with (go_at_call 53; (with_reducible refine (HC.out _).mono ?_); rintro _ V1 ⟨rfl, hb1⟩)
        go_ret
        exact ⟨ret_bool HT.out.symm, bl2 hw hb1⟩
      | true =>
        have HC := Lib.hid (fun W => rcycle_val hcy W)
        have HCY2 : Hid (∀ c ∈ l.take (q + 1), cycB c = true) := (by
          rw [HZ.out]
          intro c hc
          rcases List.mem_append.1 hc with h | h
          · exact HCY.out c h
          · rw [List.mem_singleton.1 h]; exact hcy : ∀ c ∈ l.take (q + 1), cycB c = true)
        clear hcy
        go_wp2_with (go_at_call 53; (with_reducible refine (HC.out _).mono ?_); rintro _ V1 ⟨rfl, hb1⟩)
        go_roundw
        case rel => exact ⟨q + 1, by omega, by go_num, HCY2, bl2 hw hb1, ga.below hb1 ga.lt⟩
        case measure => simp [intOf]; omega
    · obtain rfl : q = l.length := by omega
      have HALL : Hid (l.all cycB = true) := (by have h := HCY.out; rw [List.take_of_length_le (Nat.le_refl _)] at h; exact List.all_eq_true.2 h : l.all cycB = true)
      clear HCY hq hlt
      by_cases h8 : l.length ≤ 8
      · have t1 : decide ((l.length : Int) ≤ 8) = true := by simp; omega
        cases hs : solB ⟨e, b, u⟩ with
        | false =>
          have HSV := Lib.hid (fun W => rsolar_val hs W)
          have HT : Hid (almB ⟨A, c, l, ⟨e, b, u⟩, ⟨d, p, f, m, y, s, k⟩⟩ = false) := (by simp [almB, hs] : almB _ = false)
          clear hs
          go_wp2_with (first | (go_at_call 54; (with_reducible refine (HSV.out _).mono ?_); rintro _ W2 ⟨rfl, hb2⟩; have hw := bl2 hw hb2; have ga := ga.below hb2 ga.lt; (have z0 := ga.cell 0; have z1 := ga.cell 1; have z2 := ga.cell 2; have z3 := ga.cell 3; have z4 := ga.cell 4; have z5 := ga.cell 5; have z6 := ga.cell 6; have z7 := ga.cell 7; have z8 := ga.cell 8; have z9 := ga.cell 9; have z10 := ga.cell 10; simp at z0 z1 z2 z3 z4 z5 z6 z7 z8 z9 z10)) | (go_at_call 55; (with_reducible refine (HLV.out _).mono ?_); rintro _ W3 ⟨rfl, hb3⟩; have hw := bl2 hw hb3))
          go_ret
          exact ⟨ret_bool HT.out.symm, hw⟩
        | true =>
          have HSV := Lib.hid (fun W => rsolar_val hs W)
          have HLV := Lib.hid (fun W => rlunar_any d p f m y s k W)
          obtain ⟨v, hv⟩ : ∃ v, v = lunB ⟨d, p, f, m, y, s, k⟩ := ⟨_, rfl⟩
          rw [← hv] at HLV
          have HT : Hid (almB ⟨A, c, l, ⟨e, b, u⟩, ⟨d, p, f, m, y, s, k⟩⟩ = v) := (by simp [almB, hs, HALL.out, h8, hv] : almB _ = v)
          clear hs hv
          go_wp2_with (first | (go_at_call 54; (with_reducible refine (HSV.out _).mono ?_); rintro _ W2 ⟨rfl, hb2⟩; have hw := bl2 hw hb2; have ga := ga.below hb2 ga.lt; (have z0 := ga.cell 0; have z1 := ga.cell 1; have z2 := ga.cell 2; have z3 := ga.cell 3; have z4 := ga.cell 4; have z5 := ga.cell 5; have z6 := ga.cell 6; have z7 := ga.cell 7; have z8 := ga.cell 8; have z9 := ga.cell 9; have z10 := ga.cell 10; simp at z0 z1 z2 z3 z4 z5 z6 z7 z8 z9 z10)) | (go_at_call 55; (with_reducible refine (HLV.out _).mono ?_); rintro _ W3 ⟨rfl, hb3⟩; have hw := bl2 hw hb3))
          go_ret
          exact ⟨ret_bool HT.out.symm, hw⟩
      · have t1 : decide ((l.length : Int) ≤ 8) = false := by simp; omega
        have HT : Hid (almB ⟨A, c, l, ⟨e, b, u⟩, ⟨d, p, f, m, y, s, k⟩⟩ = false) := (by simp [almB]; intro h; omega : almB _ = false)
        go_wp2_with fail
        go_ret
        exact ⟨ret_bool HT.out.symm, hw⟩
end Go.Proofs.YtfbnllmmoaialaaGreat
namespace Go.Proofs.YtfbnllmmoaialaaGreat
open Go.RowKit

/-- more days than are looked at -/
def lngB (a b : Int) : Bool := spanB a b && decide (300 < b - a)
theorem rspan_val {a b : Int} {v : Bool} (h : spanB a b = v) (w : World) : Calls Tryz.prog 12 #[.int .i64 a, .int .i64 b] w fun e w' => e = .returned (.bool v) ∧ Below w.heap.size w w' := h ▸ rspan_any a b w
theorem llong_any (a b : Int) (w : World) : Calls Tryz.prog 5 #[.agg #[.int .i64 a, .int .i64 b]] w fun e w' => e = .returned (.bool (lngB a b)) ∧ Below w.heap.size w w' := by
  cases h : spanB a b with
  | false =>
    have HS := Lib.hid (fun W => rspan_val h W)
    have HT : Hid (lngB a b = false) := (by simp [lngB, h] : lngB a b = false)
    clear h
    go_enter Tryz.func5, Tryz.ntmps5
    go_wp2_with (go_at_call 12; refine (HS.out _).mono ?_; rintro _ W1 ⟨rfl, hb1⟩)
    go_ret
    exact ⟨ret_bool HT.out.symm, bl2 (by (repeat (first | exact Below.refl _ _ | assumption | (refine Below.alloc ?_ (by first | omega | (simp; omega) | (simp; done)) _) | (refine Below.setCell ?_ (by first | omega | (simp; omega) | (simp; done)) _) | (refine Below.drew ?_) | (refine belowN ?_ _) | (refine Below.trans ?_ (Below.mono ‹Below _ _ _› (by first | omega | (simp; omega) | (simp; done))))))) hb1⟩
  | true =>
    have HS := Lib.hid (fun W => rspan_val h W)
    have HT : Hid (lngB a b = decide (300 < b - a)) := (by simp [lngB, h] : lngB a b = _)
    have w1 : IntKind.i64.wrap (b - a) = b - a := by
      simp only [spanB, Bool.and_eq_true, inB_iff] at h
      exact IntWalk.i64_in _ ⟨by omega, by omega⟩
    clear h
    go_enter Tryz.func5, Tryz.ntmps5
    go_wp2_with (go_at_call 12; refine (HS.out _).mono ?_; rintro _ W1 ⟨rfl, hb1⟩; have hw : Below w.heap.size w W1 := bl2 (by (repeat (first | exact Below.refl _ _ | assumption | (refine Below.alloc ?_ (by first | omega | (simp; omega) | (simp; done)) _) | (refine Below.setCell ?_ (by first | omega | (simp; omega) | (simp; done)) _) | (refine Below.drew ?_) | (refine belowN ?_ _) | (refine Below.trans ?_ (Below.mono ‹Below _ _ _› (by first | omega | (simp; omega) | (simp; done))))))) hb1; have ga : Blk W1 w.heap.size #[.int .i64 a, .int .i64 b] 31 := (Blk.at_ rfl).below hb1 (by simp); have z0 := ga.cell 0; have z1 := ga.cell 1; simp at z0 z1)
    go_ret
    exact ⟨ret_bool HT.out.symm, hw⟩
end Go.Proofs.YtfbnllmmoaialaaGreat
namespace Go.Proofs.YtfbnllmmoaialaaGreat

theorem meet_k : meetR [⟨10, 0⟩, ⟨12, 0⟩] [3, 7] 0 = (43, 60, 0) := by kernel_rfl
abbrev solK : Sol := ⟨4, 100, 400⟩
abbrev lunK : Lun := ⟨59, 2, 0, 235, 19, 0, 4⟩
theorem solOk_k : SolOk solK := ⟨by simp [solK], by simp [solK], by simp [solK]⟩
theorem lunar_k : lunarR lunK 826 = (⟨2, 4, 1, true⟩, 0) := by kernel_rfl
theorem beg_k : begI solK 1 = 366 := by kernel_rfl
theorem sol_k (d : Int) (h0 : 0 ≤ d) (h1 : d ≤ 59) : solI solK d = if d < 31 then ⟨0, 1, d + 1⟩ else if d < 60 then ⟨0, 2, d - 30⟩ else ⟨0, 0, 0⟩ := by
  have hy : yearI solK d = 0 := yearI_is solOk_k (y := 0) (by have := begI_zero solOk_k; show begI solK 0 ≤ d; omega) (by have := beg_k; show d < begI solK 1; omega) (by omega)
  have hb := begI_zero solOk_k
  have he : extraN solK 0 = 1 := by unfold extraN; have := beg_k; rw [show (0 : Int) + 1 = 1 from rfl, this, hb]; rfl
  unfold solI
  rw [hy]
  simp only [Int.natCast_zero] at *
  rw [he, hb]
  by_cases h : d < 31
  · rw [if_pos h]
    have e : walkM (monL 1) 1 (d - 0 + 1) = (1, d + 1) := by
      unfold monL walkM; rw [if_pos (by omega)]; simp
    rw [e]
  · rw [if_neg h, if_pos (by omega)]
    have e : walkM (monL 1) 1 (d - 0 + 1) = (2, d - 30) := by
      unfold monL walkM; rw [if_neg (by omega)]; unfold walkM; rw [if_pos (by omega)]; simp; omega
    rw [e]
theorem solar_k : solarR solK 59 = (⟨0, 2, 29⟩, 0) := by
  have h1 : solB solK = true := by kernel_rfl
  have h2 : inB 59 0 1000000 = true := by kernel_rfl
  unfold solarR
  rw [h1, h2, sol_k 59 (by omega) (by omega)]
  rfl
abbrev almK (A : Option Addr) (c : Nat) : Alm := ⟨A, c, [⟨7, 0⟩], solK, lunK⟩
abbrev rulK (A1 : Option Addr) (c1 : Nat) (A2 : Option Addr) (c2 : Nat) : List DRl := [⟨A1, c1, [⟨2, 0, 2, 0, 0⟩], true⟩, ⟨A2, c2, [⟨1, 0, 96, 0, 0⟩], false⟩]
section
variable (A : Option Addr) (c : Nat) (A1 : Option Addr) (c1 : Nat) (A2 : Option Addr) (c2 : Nat)
theorem both_k : bothE (almK A c) (rulK A1 c1 A2 c2) = 0 := by kernel_rfl
theorem allow_k (d : Int) (h0 : 0 ≤ d) (h1 : d ≤ 40) : allowB (almK A c) (rulK A1 c1 A2 c2) d = (decide (d < 31) && decide (d % 7 < 5)) := by
  have hs := sol_k d h0 (by omega)
  have hm : (solI solK d).m = if d < 31 then 1 else 2 := by
    rw [hs]; split
    · rfl
    · rw [if_pos (by omega)]
  have a1 : applB (almK A c) d ⟨A1, c1, [⟨2, 0, 2, 0, 0⟩], true⟩ = decide (d < 31) := by
    simp only [applB, List.all_cons, List.all_nil, Bool.and_true, holdB, almK, hm]
    by_cases h : d < 31
    · simp [h]; rfl
    · simp [h]; rfl
  have a2 : applB (almK A c) d ⟨A2, c2, [⟨1, 0, 96, 0, 0⟩], false⟩ = !decide (d % 7 < 5) := by
    simp only [applB, List.all_cons, List.all_nil, Bool.and_true, holdB, almK]
    have e : posI ⟨7, 0⟩ d = d % 7 := by unfold posI; simp only; omega
    simp only [if_true, List.getElem?_cons_zero, Int.toNat_zero, e]
    have h2 : 0 ≤ d % 7 ∧ d % 7 < 7 := by omega
    generalize d % 7 = q at h2
    have : q = 0 ∨ q = 1 ∨ q = 2 ∨ q = 3 ∨ q = 4 ∨ q = 5 ∨ q = 6 := by omega
    rcases this with rfl | rfl | rfl | rfl | rfl | rfl | rfl <;> rfl
  unfold allowB decI
  simp only [rulK, List.length_cons, List.length_nil, lastTo, List.getElem?_cons_succ, List.getElem?_cons_zero, a1, a2]
  by_cases h5 : d % 7 < 5
  · simp only [h5, decide_true, Bool.not_true, Bool.false_eq_true, if_false]
    by_cases h : d < 31
    · simp [h]
    · simp [h]
  · simp [h5]
theorem all_k (d : Int) (h0 : 0 ≤ d) (h1 : d ≤ 40) : allB (almK A c) [⟨none, 0, rulK A1 c1 A2 c2⟩] d = (decide (d < 31) && decide (d % 7 < 5)) := by
  simp only [allB, List.all_cons, List.all_nil, Bool.and_true]
  exact allow_k A c A1 c1 A2 c2 d h0 h1
theorem span_k (b : Int) (h0 : 0 ≤ b) (h1 : b ≤ 40) : spanL (almK A c) (rulK A1 c1 A2 c2) 0 b = ((List.range (b + 1 - 0).toNat).map fun i : Nat => (0 : Int) + (i : Int)).filter fun d => decide (d < 31) && decide (d % 7 < 5) := by
  unfold spanL daysL daysN
  refine List.filter_congr fun d hd => ?_
  simp only [List.mem_map, List.mem_range] at hd
  obtain ⟨i, hi, rfl⟩ := hd
  exact all_k A c A1 c1 A2 c2 _ (by omega) (by omega)
theorem count_k : countR (almK A c) (rulK A1 c1 A2 c2) 0 40 = (23, 0) := by
  unfold countR
  rw [both_k, if_pos rfl, show spanB 0 40 = true from by kernel_rfl, if_pos rfl, span_k _ _ _ _ _ _ 40 (by omega) (by omega)]
  kernel_rfl
theorem plan_k : planR (almK A c) (rulK A1 c1 A2 c2) 0 30 5 6 3 = ([2, 8, 14], 0) := by
  unfold planR
  rw [both_k, if_pos rfl, show okP 0 30 5 6 3 = true from by kernel_rfl, if_pos rfl, span_k _ _ _ _ _ _ 30 (by omega) (by omega)]
  kernel_rfl
end
end Go.Proofs.YtfbnllmmoaialaaGreat

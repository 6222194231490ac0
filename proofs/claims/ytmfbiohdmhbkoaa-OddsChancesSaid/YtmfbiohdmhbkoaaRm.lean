/- The reference: rest, restOf, Chance, Not, Compare. -/
import Derived.Test.YtmfbiohdmhbkoaaRl
namespace Go.Proofs.Ytmfbiohdmhbkoaa
open Go.RowKit

theorem rest_mod (a b c : Int) : a % c * (b % c) % c = a * b % c := (Int.mul_emod a b c).symm
set_option maxRecDepth 100000 in
set_option maxHeartbeats 2000000 in
theorem rrest_any (a b c : Int) (w : World) (a0 : 0 ≤ a) (a1 : a ≤ 1000000000000000) (b0 : 0 ≤ b) (b1 : b ≤ 1000000000000000) (c0 : 1 ≤ c) (c1 : c ≤ 1000000000000000) :
    Calls Try.prog 85 #[.int .i64 a, .int .i64 b, .int .i64 c] w fun e w' => e = .returned (.int .i64 (a * b % c)) ∧ Below w.heap.size w w' := by
  have c00 : (c == 0) = false := by simp; omega
  have ar0 : 0 ≤ a % c := Int.emod_nonneg _ (by omega)
  have ar1 : a % c < c := Int.emod_lt_of_pos _ (by omega)
  have br0 : 0 ≤ b % c := Int.emod_nonneg _ (by omega)
  have br1 : b % c < c := Int.emod_lt_of_pos _ (by omega)
  have hm : a % c * (b % c) ≤ c * c := Int.mul_le_mul (by omega) (by omega) br0 (by omega)
  have hq : a % c * (b % c) / c ≤ 2000000000000000000 := by
    have h1 : a % c * (b % c) / c ≤ c * c / c := Int.ediv_le_ediv (by omega) hm
    rw [Int.mul_ediv_cancel _ (by omega)] at h1
    omega
  have HM : Hid (a % c * (b % c) % c = a * b % c) := (rest_mod a b c : a % c * (b % c) % c = a * b % c)
  have HD : Hid (∀ W : World, Calls Try.prog 84 #[.int .i64 (a % c), .int .i64 (b % c), .int .i64 c] W fun e w' => e = .returned (.tuple #[.int .i64 (a % c * (b % c) / c), .int .i64 (a % c * (b % c) % c)]) ∧ Below W.heap.size W w') := (fun W => rdivided_any (a % c) (b % c) c W ar0 (by omega) br0 (by omega) c0 c1 hq : ∀ W : World, _)
  have e1 : a.tmod c = a % c := Int.tmod_eq_emod_of_nonneg a0
  have e2 : b.tmod c = b % c := Int.tmod_eq_emod_of_nonneg b0
  obtain ⟨x, hx⟩ : ∃ x, x = a % c := ⟨_, rfl⟩
  obtain ⟨y, hy⟩ : ∃ x, x = b % c := ⟨_, rfl⟩
  rw [← hx, ← hy] at HM HD
  rw [← hx] at e1 ar0 ar1
  rw [← hy] at e2 br0 br1
  have hx' : a % c = x := hx.symm
  have hy' : b % c = y := hy.symm
  have w1 : IntKind.i64.wrap x = x := IntWalk.i64_in _ ⟨by omega, by omega⟩
  have w2 : IntKind.i64.wrap y = y := IntWalk.i64_in _ ⟨by omega, by omega⟩
  clear hx hy hm hq
  go_enter Try.func85, Try.ntmps85
  go_wp2
  (refine wp_region_ext (by kernel_rfl) (by kernel_rfl) ?_; (repeat (go_big_quiet_step((go_at_call 84; with_reducible exact Calls.ext_of (HD.out _))))); with_reducible refine wpQuiet_nil ?_; intro w9 hw9; have hb9 := ext_below hw9; clear hw9)
  go_wp2
  go_ret
  exact ⟨ret_int HM.out, hb9⟩
set_option maxRecDepth 100000 in
set_option maxHeartbeats 2000000 in
theorem rchanceB_any (n d : Int) (w : World) : Calls Try.prog 45 #[.agg #[.int .i64 n, .int .i64 d]] w fun e w' => e = .returned (.bool (okC ⟨n, d⟩)) ∧ Below w.heap.size w w' := by
  by_cases h1 : 1 ≤ d
  · have e1 : decide (1 ≤ d) = true := by simpa using h1
    by_cases h2 : d ≤ 1000000000000000
    · have e2 : decide (d ≤ 1000000000000000) = true := by simpa using h2
      by_cases h3 : 0 ≤ n
      · have e3 : decide (0 ≤ n) = true := by simpa using h3
        by_cases h4 : n ≤ d
        · have e4 : decide (n ≤ d) = true := by simpa using h4
          have HD := Lib.hid (fun W => rdiv_any n d W h3 (by omega) (by omega) (by omega))
          have HT : Hid (okC ⟨n, d⟩ = (gI n d == 1)) := (by
            unfold okC
            rw [Bool.eq_iff_iff]
            simp [h1, h2, h3, h4] : okC ⟨n, d⟩ = (gI n d == 1))
          obtain ⟨g, hg⟩ : ∃ g, g = gI n d := ⟨_, rfl⟩
          rw [← hg] at HD HT
          clear hg
          go_enter Try.func45, Try.ntmps45
          go_wp2_with (go_at_call 63; refine (HD.out _).mono ?_; rintro _ w1 ⟨rfl, hb1⟩)
          go_ret
          exact ⟨ret_bool HT.out.symm, bl3 (Below.refl _ _) hb1⟩
        · have e4 : decide (n ≤ d) = false := by simpa using h4
          have HT : Hid (okC ⟨n, d⟩ = false) := (by simp [okC, h4] : okC ⟨n, d⟩ = false)
          go_enter Try.func45, Try.ntmps45
          go_wp2
          go_ret
          exact ⟨ret_bool HT.out.symm, by (repeat (first | exact Below.refl _ _ | assumption | (refine Below.alloc ?_ (by first | omega | (simp; omega) | (simp; done)) _) | (refine Below.setCell ?_ (by first | omega | (simp; omega) | (simp; done)) _) | (refine Below.drew ?_) | (refine belowN ?_ _) | (refine Below.trans ?_ (Below.mono ‹Below _ _ _› (by first | omega | (simp; omega) | (simp; done))))))⟩
      · have e3 : decide (0 ≤ n) = false := by simpa using h3
        have HT : Hid (okC ⟨n, d⟩ = false) := (by simp [okC, h3] : okC ⟨n, d⟩ = false)
        go_enter Try.func45, Try.ntmps45
        go_wp2
        go_ret
        exact ⟨ret_bool HT.out.symm, by (repeat (first | exact Below.refl _ _ | assumption | (refine Below.alloc ?_ (by first | omega | (simp; omega) | (simp; done)) _) | (refine Below.setCell ?_ (by first | omega | (simp; omega) | (simp; done)) _) | (refine Below.drew ?_) | (refine belowN ?_ _) | (refine Below.trans ?_ (Below.mono ‹Below _ _ _› (by first | omega | (simp; omega) | (simp; done))))))⟩
    · have e2 : decide (d ≤ 1000000000000000) = false := by simpa using h2
      have HT : Hid (okC ⟨n, d⟩ = false) := (by simp [okC, h2] : okC ⟨n, d⟩ = false)
      go_enter Try.func45, Try.ntmps45
      go_wp2
      go_ret
      exact ⟨ret_bool HT.out.symm, by (repeat (first | exact Below.refl _ _ | assumption | (refine Below.alloc ?_ (by first | omega | (simp; omega) | (simp; done)) _) | (refine Below.setCell ?_ (by first | omega | (simp; omega) | (simp; done)) _) | (refine Below.drew ?_) | (refine belowN ?_ _) | (refine Below.trans ?_ (Below.mono ‹Below _ _ _› (by first | omega | (simp; omega) | (simp; done))))))⟩
  · have e1 : decide (1 ≤ d) = false := by simpa using h1
    have HT : Hid (okC ⟨n, d⟩ = false) := (by simp [okC, h1] : okC ⟨n, d⟩ = false)
    go_enter Try.func45, Try.ntmps45
    go_wp2
    go_ret
    exact ⟨ret_bool HT.out.symm, by (repeat (first | exact Below.refl _ _ | assumption | (refine Below.alloc ?_ (by first | omega | (simp; omega) | (simp; done)) _) | (refine Below.setCell ?_ (by first | omega | (simp; omega) | (simp; done)) _) | (refine Below.drew ?_) | (refine belowN ?_ _) | (refine Below.trans ?_ (Below.mono ‹Below _ _ _› (by first | omega | (simp; omega) | (simp; done))))))⟩
set_option maxRecDepth 100000 in
set_option maxHeartbeats 2000000 in
theorem rnot_any (n d : Int) (w : World) : Calls Try.prog 48 #[.agg #[.int .i64 n, .int .i64 d]] w (RetC (notR ⟨n, d⟩) w) := by
  have HI := Lib.hid (fun W => rchanceB_any n d W)
  by_cases ok : okC ⟨n, d⟩ = true
  · have HT : Hid (notR ⟨n, d⟩ = (d - n, d, 0)) := (by unfold notR; rw [if_pos ok] : notR ⟨n, d⟩ = _)
    obtain ⟨o1, o2, o3, o4, -⟩ := okC_iff.1 ok
    simp only at o1 o2 o3 o4
    rw [ok] at HI
    clear ok
    go_enter Try.func48, Try.ntmps48
    go_wp2_with (go_at_call 45; refine (HI.out _).mono ?_; rintro _ w1 ⟨rfl, hb1⟩; have g0 : Blk w1 w.heap.size #[.int .i64 n, .int .i64 d] 51 := ((Blk.at_ rfl).alloc _).below hb1 (by first | omega | (simp; omega) | (simp; done)); have g1 : Blk w1 (w.heap.size + 1) #[.int .i64 0, .int .i64 0] 51 := (Blk.at_ (by simp)).below hb1 (by first | omega | (simp; omega) | (simp; done)); have hz := g1.lt; have c0 := g0.cell 0; have c1 := g0.cell 1; have f0 := g1.free 0; have f1 := g1.free 1; have e0 := g1.cell 0; have e1 := g1.cell 1; simp at c0 c1 e0 e1)
    refine gen_w (fun W => Blk W (w.heap.size + 1) #[.int .i64 (d - n), .int .i64 d] 51 ∧ Below w.heap.size w W) ⟨(by have := (g1.set 0 (.int .i64 (d - n))).set 1 (.int .i64 d); simp at this; exact this), by (repeat (first | exact Below.refl _ _ | assumption | (refine Below.alloc ?_ (by first | omega | (simp; omega) | (simp; done)) _) | (refine Below.setCell ?_ (by first | omega | (simp; omega) | (simp; done)) _) | (refine Below.drew ?_) | (refine belowN ?_ _) | (refine Below.trans ?_ (Below.mono ‹Below _ _ _› (by first | omega | (simp; omega) | (simp; done))))))⟩ ?_
    rintro W ⟨gW, hW⟩
    have q0 := gW.cell 0; have q1 := gW.cell 1
    simp at q0 q1
    exact bodyPost_ret (v := .tuple #[.agg #[.int .i64 (d - n), .int .i64 d], .int .i64 0]) (by simp [results, Try.results48, go_sem, q0, q1]) rfl ⟨by rw [HT.out], hW⟩
  · have ok' : okC ⟨n, d⟩ = false := by simpa using ok
    have HT : Hid (notR ⟨n, d⟩ = (0, 0, 2)) := (by unfold notR; rw [if_neg ok] : notR ⟨n, d⟩ = _)
    rw [ok'] at HI
    clear ok ok'
    go_enter Try.func48, Try.ntmps48
    go_wp2_with (go_at_call 45; refine (HI.out _).mono ?_; rintro _ w1 ⟨rfl, hb1⟩; have g1 : Blk w1 (w.heap.size + 1) #[.int .i64 0, .int .i64 0] 51 := (Blk.at_ (by simp)).below hb1 (by first | omega | (simp; omega) | (simp; done)); have hz := g1.lt; have f0 := g1.free 0; have f1 := g1.free 1; have e0 := g1.cell 0; have e1 := g1.cell 1; simp at e0 e1)
    refine gen_w (fun W => Blk W (w.heap.size + 1) #[.int .i64 0, .int .i64 0] 51 ∧ Below w.heap.size w W) ⟨(by have := (g1.set 0 (.int .i64 0)).set 1 (.int .i64 0); simp at this; exact this), by (repeat (first | exact Below.refl _ _ | assumption | (refine Below.alloc ?_ (by first | omega | (simp; omega) | (simp; done)) _) | (refine Below.setCell ?_ (by first | omega | (simp; omega) | (simp; done)) _) | (refine Below.drew ?_) | (refine belowN ?_ _) | (refine Below.trans ?_ (Below.mono ‹Below _ _ _› (by first | omega | (simp; omega) | (simp; done))))))⟩ ?_
    rintro W ⟨gW, hW⟩
    have q0 := gW.cell 0; have q1 := gW.cell 1
    simp at q0 q1
    exact bodyPost_ret (v := .tuple #[.agg #[.int .i64 0, .int .i64 0], .int .i64 2]) (by simp [results, Try.results48, go_sem, q0, q1]) rfl ⟨by rw [HT.out], hW⟩
/-- a number compared with a quotient and its rest -/
theorem cmp_div {X D V : Int} (hD : 0 < D) : cmpI (X * D) V = if X < V / D ∨ (X = V / D ∧ 0 < V % D) then -1 else if V / D < X then 1 else 0 := by
  have h1 := Int.mul_ediv_add_emod V D
  have h2 := Int.emod_nonneg V (show D ≠ 0 by omega)
  have h3 := Int.emod_lt_of_pos V hD
  obtain ⟨Q, hQ⟩ : ∃ Q, Q = V / D := ⟨_, rfl⟩
  obtain ⟨R, hR⟩ : ∃ Q, Q = V % D := ⟨_, rfl⟩
  rw [← hQ, ← hR] at h1
  rw [← hR] at h2 h3
  rw [← hQ, ← hR]
  unfold cmpI
  rcases Int.lt_trichotomy X Q with h | h | h
  · have h4 : (X + 1) * D ≤ Q * D := Int.mul_le_mul_of_nonneg_right (by omega) (by omega)
    rw [Int.add_mul, Int.one_mul] at h4
    rw [Int.mul_comm D Q] at h1
    rw [if_pos (by omega), if_pos (.inl h)]
  · subst h
    rw [Int.mul_comm D X] at h1
    by_cases hr : 0 < R
    · rw [if_pos (by omega), if_pos (.inr ⟨rfl, hr⟩)]
    · rw [if_neg (by omega), if_neg (by omega), if_neg (by omega), if_neg (by omega)]
  · have h4 : (Q + 1) * D ≤ X * D := Int.mul_le_mul_of_nonneg_right (by omega) (by omega)
    rw [Int.add_mul, Int.one_mul] at h4
    rw [Int.mul_comm D Q] at h1
    rw [if_neg (by omega), if_pos (by omega), if_neg (by omega), if_pos h]
theorem div_small {n d e : Int} (h0 : 0 ≤ n) (h1 : n ≤ d) (d1 : 1 ≤ d) (e0 : 0 ≤ e) : 0 ≤ n * e / d ∧ n * e / d ≤ e := by
  refine ⟨Int.ediv_nonneg (Int.mul_nonneg h0 e0) (by omega), ?_⟩
  have h2 := Int.mul_le_mul_of_nonneg_right h1 e0
  have h3 := Int.ediv_le_ediv (show 0 < d by omega) h2
  rwa [Int.mul_ediv_cancel_left _ (by omega)] at h3
set_option maxRecDepth 100000 in
set_option maxHeartbeats 2000000 in
theorem rcompare_any (n d p q : Int) (w : World) (O1 : OkC ⟨n, d⟩) (O2 : OkC ⟨p, q⟩) : Calls Try.prog 46 #[.agg #[.int .i64 n, .int .i64 d], .agg #[.int .i64 p, .int .i64 q]] w fun e w' => e = .returned (.int .i64 (cmpI (n * q) (p * d))) ∧ Below w.heap.size w w' := by
  obtain ⟨o1, o2, o3, o4, -⟩ := O1
  obtain ⟨o5, o6, o7, o8, -⟩ := O2
  simp only at o1 o2 o3 o4 o5 o6 o7 o8
  obtain ⟨q0, q1⟩ := div_small o7 o8 o5 (show 0 ≤ d by omega)
  have HD : Hid (∀ W : World, Calls Try.prog 84 #[.int .i64 p, .int .i64 d, .int .i64 q] W fun e w' => e = .returned (.tuple #[.int .i64 (p * d / q), .int .i64 (p * d % q)]) ∧ Below W.heap.size W w') := (fun W => rdivided_any p d q W o7 (by omega) (by omega) o2 o5 o6 (by omega) : ∀ W : World, _)
  have HC := Lib.hid (cmp_div (X := n) (V := p * d) (show 0 < q by omega))
  have r0 := Int.emod_nonneg (p * d) (show q ≠ 0 by omega)
  obtain ⟨Q, hQ⟩ : ∃ Q, Q = p * d / q := ⟨_, rfl⟩
  obtain ⟨R, hR⟩ : ∃ Q, Q = p * d % q := ⟨_, rfl⟩
  rw [← hQ, ← hR] at HD HC
  rw [← hQ] at q0 q1
  rw [← hR] at r0
  clear hQ hR
  rcases Int.lt_trichotomy n Q with h | h | h
  · have HT : Hid (cmpI (n * q) (p * d) = -1) := (by rw [HC.out, if_pos (.inl h)] : cmpI (n * q) (p * d) = -1)
    go_enter Try.func46, Try.ntmps46
    go_wp2_with (go_at_call 84; refine (HD.out _).mono ?_; rintro _ w1 ⟨rfl, hb1⟩; have g0 : Blk w1 w.heap.size #[.int .i64 n, .int .i64 d] 51 := ((Blk.at_ rfl).alloc _).below hb1 (by first | omega | (simp; omega) | (simp; done)); have c0 := g0.cell 0; have c1 := g0.cell 1; simp at c0 c1)
    go_ret
    exact ⟨ret_int HT.out.symm, by (repeat (first | exact Below.refl _ _ | assumption | (refine Below.alloc ?_ (by first | omega | (simp; omega) | (simp; done)) _) | (refine Below.setCell ?_ (by first | omega | (simp; omega) | (simp; done)) _) | (refine Below.drew ?_) | (refine belowN ?_ _) | (refine Below.trans ?_ (Below.mono ‹Below _ _ _› (by first | omega | (simp; omega) | (simp; done))))))⟩
  · subst h
    by_cases hr : 0 < R
    · have HT : Hid (cmpI (n * q) (p * d) = -1) := (by rw [HC.out, if_pos (.inr ⟨rfl, hr⟩)] : cmpI (n * q) (p * d) = -1)
      go_enter Try.func46, Try.ntmps46
      go_wp2_with (go_at_call 84; refine (HD.out _).mono ?_; rintro _ w1 ⟨rfl, hb1⟩; have g0 : Blk w1 w.heap.size #[.int .i64 n, .int .i64 d] 51 := ((Blk.at_ rfl).alloc _).below hb1 (by first | omega | (simp; omega) | (simp; done)); have c0 := g0.cell 0; have c1 := g0.cell 1; simp at c0 c1)
      go_ret
      exact ⟨ret_int HT.out.symm, by (repeat (first | exact Below.refl _ _ | assumption | (refine Below.alloc ?_ (by first | omega | (simp; omega) | (simp; done)) _) | (refine Below.setCell ?_ (by first | omega | (simp; omega) | (simp; done)) _) | (refine Below.drew ?_) | (refine belowN ?_ _) | (refine Below.trans ?_ (Below.mono ‹Below _ _ _› (by first | omega | (simp; omega) | (simp; done))))))⟩
    · have HT : Hid (cmpI (n * q) (p * d) = 0) := (by rw [HC.out, if_neg (by omega), if_neg (by omega)] : cmpI (n * q) (p * d) = 0)
      have hr2 : decide (0 < R) = false := by simpa using hr
      go_enter Try.func46, Try.ntmps46
      go_wp2_with (go_at_call 84; refine (HD.out _).mono ?_; rintro _ w1 ⟨rfl, hb1⟩; have g0 : Blk w1 w.heap.size #[.int .i64 n, .int .i64 d] 51 := ((Blk.at_ rfl).alloc _).below hb1 (by first | omega | (simp; omega) | (simp; done)); have c0 := g0.cell 0; have c1 := g0.cell 1; simp at c0 c1)
      go_ret
      exact ⟨ret_int HT.out.symm, by (repeat (first | exact Below.refl _ _ | assumption | (refine Below.alloc ?_ (by first | omega | (simp; omega) | (simp; done)) _) | (refine Below.setCell ?_ (by first | omega | (simp; omega) | (simp; done)) _) | (refine Below.drew ?_) | (refine belowN ?_ _) | (refine Below.trans ?_ (Below.mono ‹Below _ _ _› (by first | omega | (simp; omega) | (simp; done))))))⟩
  · have HT : Hid (cmpI (n * q) (p * d) = 1) := (by rw [HC.out, if_neg (by omega), if_pos h] : cmpI (n * q) (p * d) = 1)
    have e1 : decide (n < Q) = false := by simp; omega
    have e2 : (n == Q) = false := by simp; omega
    go_enter Try.func46, Try.ntmps46
    go_wp2_with (go_at_call 84; refine (HD.out _).mono ?_; rintro _ w1 ⟨rfl, hb1⟩; have g0 : Blk w1 w.heap.size #[.int .i64 n, .int .i64 d] 51 := ((Blk.at_ rfl).alloc _).below hb1 (by first | omega | (simp; omega) | (simp; done)); have c0 := g0.cell 0; have c1 := g0.cell 1; simp at c0 c1)
    go_ret
    exact ⟨ret_int HT.out.symm, by (repeat (first | exact Below.refl _ _ | assumption | (refine Below.alloc ?_ (by first | omega | (simp; omega) | (simp; done)) _) | (refine Below.setCell ?_ (by first | omega | (simp; omega) | (simp; done)) _) | (refine Below.drew ?_) | (refine belowN ?_ _) | (refine Below.trans ?_ (Below.mono ‹Below _ _ _› (by first | omega | (simp; omega) | (simp; done))))))⟩
/-- by how much a sum of quotients is greater than the quotients together -/
def roI (r s : Int) : Int := if 0 < r ∨ 0 < s then 1 else 0
set_option maxRecDepth 100000 in
set_option maxHeartbeats 2000000 in
theorem rrestOf_any (n d p q den : Int) (w : World) (O1 : OkC ⟨n, d⟩) (O2 : OkC ⟨p, q⟩) (e0 : 0 ≤ den) (e1 : den ≤ 1000000000000000) : Calls Try.prog 86 #[.agg #[.int .i64 n, .int .i64 d], .agg #[.int .i64 p, .int .i64 q], .int .i64 den] w fun e w' => e = .returned (.int .i64 (roI (n * den % d) (p * den % q))) ∧ Below w.heap.size w w' := by
  obtain ⟨o1, o2, o3, o4, -⟩ := O1
  obtain ⟨o5, o6, o7, o8, -⟩ := O2
  simp only at o1 o2 o3 o4 o5 o6 o7 o8
  obtain ⟨q0, q1⟩ := div_small o3 o4 o1 e0
  obtain ⟨q2, q3⟩ := div_small o7 o8 o5 e0
  have HD1 : Hid (∀ W : World, Calls Try.prog 84 #[.int .i64 n, .int .i64 den, .int .i64 d] W fun e w' => e = .returned (.tuple #[.int .i64 (n * den / d), .int .i64 (n * den % d)]) ∧ Below W.heap.size W w') := (fun W => rdivided_any n den d W o3 (by omega) e0 e1 o1 o2 (by omega) : ∀ W : World, _)
  have HD2 : Hid (∀ W : World, Calls Try.prog 84 #[.int .i64 p, .int .i64 den, .int .i64 q] W fun e w' => e = .returned (.tuple #[.int .i64 (p * den / q), .int .i64 (p * den % q)]) ∧ Below W.heap.size W w') := (fun W => rdivided_any p den q W o7 (by omega) e0 e1 o5 o6 (by omega) : ∀ W : World, _)
  have HT0 : Hid (roI (n * den % d) (p * den % q) = if 0 < n * den % d ∨ 0 < p * den % q then 1 else 0) := (rfl : roI (n * den % d) (p * den % q) = _)
  obtain ⟨R, hR⟩ : ∃ Q, Q = n * den % d := ⟨_, rfl⟩
  obtain ⟨S, hS⟩ : ∃ Q, Q = p * den % q := ⟨_, rfl⟩
  obtain ⟨Q1, hQ1⟩ : ∃ Q, Q = n * den / d := ⟨_, rfl⟩
  obtain ⟨Q2, hQ2⟩ : ∃ Q, Q = p * den / q := ⟨_, rfl⟩
  rw [← hR, ← hQ1] at HD1
  rw [← hS, ← hQ2] at HD2
  rw [← hR, ← hS] at HT0 ⊢
  clear hR hS hQ1 hQ2 q0 q1 q2 q3
  by_cases hr : 0 < R
  · have HT : Hid (roI R S = 1) := (by rw [HT0.out, if_pos (.inl hr)] : roI R S = 1)
    go_enter Try.func86, Try.ntmps86
    go_wp2_with (first | (go_at_call 84; have _ := hb1; (with_reducible refine (HD2.out _).mono ?_); rintro _ w2 ⟨rfl, hb2⟩) | (go_at_call 84; (with_reducible refine (HD1.out _).mono ?_); rintro _ w1 ⟨rfl, hb1⟩; have g1 : Blk w1 (w.heap.size + 1) #[.int .i64 p, .int .i64 q] 51 := (Blk.at_ (by simp)).below hb1 (by first | omega | (simp; omega) | (simp; done)); have c0 := g1.cell 0; have c1 := g1.cell 1; simp at c0 c1))
    go_ret
    exact ⟨ret_int HT.out.symm, bl2 (by (repeat (first | exact Below.refl _ _ | assumption | (refine Below.alloc ?_ (by first | omega | (simp; omega) | (simp; done)) _) | (refine Below.setCell ?_ (by first | omega | (simp; omega) | (simp; done)) _) | (refine Below.drew ?_) | (refine belowN ?_ _) | (refine Below.trans ?_ (Below.mono ‹Below _ _ _› (by first | omega | (simp; omega) | (simp; done))))))) hb2⟩
  · have hr2 : decide (0 < R) = false := by simpa using hr
    by_cases hs : 0 < S
    · have HT : Hid (roI R S = 1) := (by rw [HT0.out, if_pos (.inr hs)] : roI R S = 1)
      clear hr
      go_enter Try.func86, Try.ntmps86
      go_wp2_with (first | (go_at_call 84; have _ := hb1; (with_reducible refine (HD2.out _).mono ?_); rintro _ w2 ⟨rfl, hb2⟩) | (go_at_call 84; (with_reducible refine (HD1.out _).mono ?_); rintro _ w1 ⟨rfl, hb1⟩; have g1 : Blk w1 (w.heap.size + 1) #[.int .i64 p, .int .i64 q] 51 := (Blk.at_ (by simp)).below hb1 (by first | omega | (simp; omega) | (simp; done)); have c0 := g1.cell 0; have c1 := g1.cell 1; simp at c0 c1))
      go_ret
      exact ⟨ret_int HT.out.symm, bl2 (by (repeat (first | exact Below.refl _ _ | assumption | (refine Below.alloc ?_ (by first | omega | (simp; omega) | (simp; done)) _) | (refine Below.setCell ?_ (by first | omega | (simp; omega) | (simp; done)) _) | (refine Below.drew ?_) | (refine belowN ?_ _) | (refine Below.trans ?_ (Below.mono ‹Below _ _ _› (by first | omega | (simp; omega) | (simp; done))))))) hb2⟩
    · have hs2 : decide (0 < S) = false := by simpa using hs
      have HT : Hid (roI R S = 0) := (by rw [HT0.out, if_neg (by omega)] : roI R S = 0)
      clear hr hs
      go_enter Try.func86, Try.ntmps86
      go_wp2_with (first | (go_at_call 84; have _ := hb1; (with_reducible refine (HD2.out _).mono ?_); rintro _ w2 ⟨rfl, hb2⟩) | (go_at_call 84; (with_reducible refine (HD1.out _).mono ?_); rintro _ w1 ⟨rfl, hb1⟩; have g1 : Blk w1 (w.heap.size + 1) #[.int .i64 p, .int .i64 q] 51 := (Blk.at_ (by simp)).below hb1 (by first | omega | (simp; omega) | (simp; done)); have c0 := g1.cell 0; have c1 := g1.cell 1; simp at c0 c1))
      go_ret
      exact ⟨ret_int HT.out.symm, bl2 (by (repeat (first | exact Below.refl _ _ | assumption | (refine Below.alloc ?_ (by first | omega | (simp; omega) | (simp; done)) _) | (refine Below.setCell ?_ (by first | omega | (simp; omega) | (simp; done)) _) | (refine Below.drew ?_) | (refine belowN ?_ _) | (refine Below.trans ?_ (Below.mono ‹Below _ _ _› (by first | omega | (simp; omega) | (simp; done))))))) hb2⟩
end Go.Proofs.Ytmfbiohdmhbkoaa

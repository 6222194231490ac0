/- odds: a number of two words divided. -/
import Derived.Test.YtiikkcifdhcejaaZ06Pg
import Derived.Test.YtiikkcifdhcejaaZ07Gg
import Derived.BigRegion
import Derived.Deep.DeepCutAuto
namespace Go.Proofs.Ytiikkcifdhcejaa
open Go.RowKit

theorem bitLen_up (y : Nat) (h1 : y < 18446744073709551616) : y < 2 ^ Lib.bitLen y := by
  rcases Nat.lt_or_ge y (2 ^ Lib.bitLen y) with h | h
  · exact h
  · exfalso
    have e := Lib.bitLen_shift (Lib.bitLen y) y h h1
    have hp : 0 < 2 ^ Lib.bitLen y := Nat.pow_pos (by omega)
    have h2 : y / 2 ^ Lib.bitLen y ≠ 0 := by
      have := Nat.div_pos h hp; omega
    have h3 := Lib.bitLen_half (y / 2 ^ Lib.bitLen y) h2 (Nat.lt_of_le_of_lt (Nat.div_le_self _ _) h1)
    omega
/-- the shift that makes the first bit of a number 1 -/
theorem norm_ex (y : Int) (h0 : 0 < y) (h1 : y < 9223372036854775808) : ∃ (s : Nat), 64 - (Lib.bitLen y.toNat : Int) = (s : Int) ∧ 1 ≤ s ∧ s ≤ 63 ∧ (2 : Int) ^ s * 2 ^ (64 - s) = 18446744073709551616 ∧ 9223372036854775808 ≤ y * 2 ^ s ∧ y * 2 ^ s < 18446744073709551616 := by
  obtain ⟨y, rfl⟩ := Int.eq_ofNat_of_zero_le (a := y) (by omega)
  rw [Int.toNat_natCast]
  have up := bitLen_up y (by omega)
  have l63 : Lib.bitLen y ≤ 63 := Lib.bitLen_le y 63 (by omega) (by omega)
  have l1 : 1 ≤ Lib.bitLen y := by
    rcases Nat.eq_zero_or_pos (Lib.bitLen y) with h | h
    · rw [h] at up; omega
    · exact h
  have lo : 2 ^ (Lib.bitLen y - 1) ≤ y := by
    rcases Nat.lt_or_ge y (2 ^ (Lib.bitLen y - 1)) with h | h
    · have := Lib.bitLen_le y (Lib.bitLen y - 1) (by omega) h; omega
    · exact h
  obtain ⟨L, hL⟩ : ∃ L, L = Lib.bitLen y := ⟨_, rfl⟩
  rw [← hL] at up l63 l1 lo ⊢
  have hp : 0 < 2 ^ (64 - L) := Nat.pow_pos (by omega)
  have e1 : 2 ^ (L - 1) * 2 ^ (64 - L) = 9223372036854775808 := by rw [← Nat.pow_add, show L - 1 + (64 - L) = 63 by omega]
  have e2 : 2 ^ L * 2 ^ (64 - L) = 18446744073709551616 := by rw [← Nat.pow_add, show L + (64 - L) = 64 by omega]
  have m1 := Nat.mul_le_mul_right (2 ^ (64 - L)) lo
  have m2 := Nat.mul_lt_mul_of_pos_right up hp
  rw [e1] at m1
  rw [e2] at m2
  refine ⟨64 - L, by omega, by omega, by omega, ?_, ?_, ?_⟩
  · rw [← Int.pow_add, show 64 - L + (64 - (64 - L)) = 64 by omega]; rfl
  · have : ((2 : Int) ^ (64 - L)) = ((2 ^ (64 - L) : Nat) : Int) := by rw [Int.natCast_pow]; rfl
    rw [this, mulNN]; omega
  · have : ((2 : Int) ^ (64 - L)) = ((2 ^ (64 - L) : Nat) : Int) := by rw [Int.natCast_pow]; rfl
    rw [this, mulNN]; omega
theorem and32 {a : Int} (h : 0 ≤ a) (h' : a < 18446744073709551616) : bits .and .u64 a 4294967295 = a % 4294967296 := by
  obtain ⟨a, rfl⟩ := Int.eq_ofNat_of_zero_le h
  rw [low32 a (by omega)]; omega
/-- bits that do not meet -/
theorem or_add {s : Nat} {a b : Int} (ha : 0 ≤ a) (hb : 0 ≤ b) (hb' : b < 2 ^ s) (hab : a * 2 ^ s + b < 18446744073709551616) : bits .or .u64 (a * 2 ^ s) b = a * 2 ^ s + b := by
  obtain ⟨a, rfl⟩ := Int.eq_ofNat_of_zero_le ha
  obtain ⟨b, rfl⟩ := Int.eq_ofNat_of_zero_le hb
  have e : ((2 : Int) ^ s) = ((2 ^ s : Nat) : Int) := by rw [Int.natCast_pow]; rfl
  rw [e] at hb' hab ⊢
  rw [mulNN] at hab ⊢
  rw [bits_or_u64_nat _ _ (by omega) (by omega)]
  have h1 : b < 2 ^ s := by omega
  have := Nat.two_pow_add_eq_or_of_lt h1 a
  rw [Nat.mul_comm] at this
  rw [← this]; omega
theorem u64_wrap {a : Int} (h0 : 0 ≤ a) (h1 : a < 18446744073709551616) : IntKind.u64.wrap a = a := by rw [IntKind.wrap_u64]; omega
/-- what is left of a shift -/
theorem shl_low {a P Q : Int} (hP : 0 < P) (hQ : 0 < Q) (h : P * Q = 18446744073709551616) (_h0 : 0 ≤ a) : IntKind.u64.wrap (a * P) = a % Q * P ∧ 0 ≤ a % Q * P ∧ a % Q * P < 18446744073709551616 := by
  have e := Int.mul_ediv_add_emod a Q
  have r0 := Int.emod_nonneg a (show Q ≠ 0 by omega)
  have r1 := Int.emod_lt_of_pos a hQ
  have h2 : a % Q * P < Q * P := Int.mul_lt_mul_of_pos_right r1 hP
  have h3 := Int.mul_nonneg r0 (show 0 ≤ P by omega)
  rw [Int.mul_comm Q P, h] at h2
  refine ⟨?_, h3, h2⟩
  have e2 : a * P = a % Q * P + 18446744073709551616 * (a / Q) := by
    conv => lhs; rw [← e, Int.add_mul]
    rw [← h, Int.add_comm]; congr 1; ac_rfl
  rw [IntKind.wrap_u64, e2]
  omega
theorem emod_mul_right {a b c : Int} (h : 0 < c) : a * c % (b * c) = a % b * c := by rw [Int.mul_comm a, Int.mul_comm b, Int.mul_emod_mul_of_pos _ _ h, Int.mul_comm]
/-- a rest, with the words that run over -/
theorem chain {a d p r : Int} (h : r = a * 4294967296 + d - p) (h0 : 0 ≤ r) (h1 : r < 18446744073709551616) :
    ∃ z1 z2 z3, IntKind.u64.wrap (a * 4294967296) = z1 ∧ IntKind.u64.wrap (z1 + d) = z2 ∧ IntKind.u64.wrap p = z3 ∧ IntKind.u64.wrap (z2 - z3) = r :=
  ⟨_, _, _, rfl, rfl, rfl, by simp only [IntKind.wrap_u64]; omega⟩
/-- a digit's rest -/
theorem rest_bd {n y : Int} (hy : 0 < y) : 0 ≤ n % y ∧ n % y < y := ⟨Int.emod_nonneg _ (by omega), Int.emod_lt_of_pos _ hy⟩
theorem dig_lt {u d y : Int} (hu : 0 ≤ u) (hd : 0 ≤ d) (hu' : u < y) (hd' : d < 4294967296) : 0 ≤ (u * 4294967296 + d) / y ∧ (u * 4294967296 + d) / y < 4294967296 :=
  ⟨Int.ediv_nonneg (by omega) (by omega), Int.ediv_lt_of_lt_mul (by omega) (by omega)⟩
set_option maxRecDepth 100000 in
set_option maxHeartbeats 4000000 in
theorem div64_any (hi lo y : Int) (hy : 0 < y) (hy' : y < 9223372036854775808) (h00 : 0 ≤ hi) (hh : hi < y) (hl0 : 0 ≤ lo) (hl : lo < 18446744073709551616) (w : World) :
    Calls Try.prog 96 #[.int .u64 hi, .int .u64 lo, .int .u64 y] w fun e w' => e = .returned (.tuple #[.int .u64 ((hi * 18446744073709551616 + lo) / y), .int .u64 ((hi * 18446744073709551616 + lo) % y)]) ∧ Below w.heap.size w w' := by
  have b0 : (y == 0) = false := by simp; omega
  have b1 : decide (y ≤ hi) = false := by simp; omega
  by_cases h0 : hi = 0
  · subst h0
    have y0 : y ≠ 0 := by omega
    go_enter Try.func96, Try.ntmps96
    go_wp2
    go_region
    all_goals (
      go_wp2
      go_ret2
      exact ⟨by simp, by (repeat (first | exact Below.refl _ _ | assumption | (refine Below.alloc ?_ (by first | omega | (simp; omega) | (simp; done)) _) | (refine Below.setCell ?_ (by first | omega | (simp; omega) | (simp; done)) _) | (refine Below.drew ?_) | (refine belowN ?_ _) | (refine Below.trans ?_ (Below.mono ‹Below _ _ _› (by first | omega | (simp; omega) | (simp; done))))))⟩)
  · have b3 : (hi == 0) = false := by simp; omega
    obtain ⟨s, hs, s1, s2, hPQ, n1, n2⟩ := norm_ex y hy hy'
    have HL := Lib.hid (fun w => lz64_any (y : Int) w (by omega) (by omega))
    rw [hs] at HL
    have hP : (0 : Int) < 2 ^ s := Int.pow_pos (by omega)
    have hQ : (0 : Int) < 2 ^ (64 - s) := Int.pow_pos (by omega)
    have hr0 := Int.mul_nonneg h00 (Int.le_of_lt hP)
    have e1 := u64_wrap (show 0 ≤ y * 2 ^ s by omega) n2
    have l0 := Int.ediv_nonneg hl0 (Int.le_of_lt hQ)
    have l1 : lo / 2 ^ (64 - s) < 2 ^ s := Int.ediv_lt_of_lt_mul hQ (by rw [hPQ]; exact hl)
    have h2 : (hi + 1) * 2 ^ s ≤ y * 2 ^ s := Int.mul_le_mul_of_nonneg_right (show hi + 1 ≤ y by omega) (Int.le_of_lt hP)
    rw [Int.add_mul, Int.one_mul] at h2
    have e2 := u64_wrap hr0 (show hi * 2 ^ s < 18446744073709551616 by omega)
    have e3 := or_add h00 l0 l1 (by omega)
    obtain ⟨e4, k0, k1⟩ := shl_low hP hQ hPQ hl0
    have e5 := shifted (hi := hi) (lo := lo) hPQ
    go_enter Try.func96, Try.ntmps96
    go_upto_region 15 with (go_at_call 102; refine (HL.out _).mono ?_; rintro _ _ ⟨rfl, rfl⟩)
    skip
    obtain ⟨t1, t2⟩ := two_digits (y := y * 2 ^ s) (u := hi * 2 ^ s + lo / 2 ^ (64 - s)) (d1 := lo % 2 ^ (64 - s) * 2 ^ s / 4294967296) (d0 := lo % 2 ^ (64 - s) * 2 ^ s % 4294967296) (by omega)
    have t3 : (hi * 2 ^ s + lo / 2 ^ (64 - s)) * 18446744073709551616 + lo % 2 ^ (64 - s) * 2 ^ s / 4294967296 * 4294967296 + lo % 2 ^ (64 - s) * 2 ^ s % 4294967296 = (hi * 18446744073709551616 + lo) * 2 ^ s := by omega
    rw [t3, Int.mul_ediv_mul_of_pos_left _ _ hP] at t1
    rw [t3, emod_mul_right hP] at t2
    have t4 : (hi * 18446744073709551616 + lo) % y * 2 ^ s / 2 ^ s = (hi * 18446744073709551616 + lo) % y := Int.mul_ediv_cancel _ (by omega)
    rw [t2] at t4
    have T1 := Lib.hid t1; have T4 := Lib.hid t4; have hPP := Lib.hid hP
    obtain ⟨Y, hY⟩ : ∃ Y, Y = y * 2 ^ s := ⟨_, rfl⟩
    obtain ⟨u, hu⟩ : ∃ u, u = hi * 2 ^ s + lo / 2 ^ (64 - s) := ⟨_, rfl⟩
    obtain ⟨L, hL⟩ : ∃ L, L = lo % 2 ^ (64 - s) * 2 ^ s := ⟨_, rfl⟩
    have u0 : 0 ≤ u := by omega
    have u1 : u < Y := by omega
    rw [← hY, ← hu, ← hL]
    rw [← hY, ← hu, ← hL] at T1 T4
    rw [← hY] at n1 n2
    rw [← hL] at k0 k1
    have a1 := and32 (a := Y) (by omega) (by omega)
    have a2 := and32 k0 k1
    rw [a1, a2]
    have eY : Y = Y / 4294967296 * 4294967296 + Y % 4294967296 := by omega
    obtain ⟨y1, hy1⟩ : ∃ y1, y1 = Y / 4294967296 := ⟨_, rfl⟩
    obtain ⟨y0, hy0⟩ : ∃ y0, y0 = Y % 4294967296 := ⟨_, rfl⟩
    obtain ⟨d1, hd1⟩ : ∃ d, d = L / 4294967296 := ⟨_, rfl⟩
    obtain ⟨d0, hd0⟩ : ∃ d, d = L % 4294967296 := ⟨_, rfl⟩
    have y1p : 0 < y1 := by omega
    have y1g : 2147483648 ≤ y1 := by omega
    have y1l : y1 < 4294967296 := by omega
    have y00 : 0 ≤ y0 := by omega
    have y01 : y0 < 4294967296 := by omega
    have c0 : 0 ≤ d1 := by omega
    have c1 : d1 < 4294967296 := by omega
    have c2 : 0 ≤ d0 := by omega
    have c3 : d0 < 4294967296 := by omega
    rw [← hy1, ← hy0] at eY
    rw [← hy1, ← hy0, ← hd1, ← hd0]
    rw [← hd1, ← hd0] at T1 T4
    have hYp : 0 < y1 * 4294967296 + y0 := by omega
    have y1n : y1 ≠ 0 := by omega
    clear e1 e2 e3 e4 e5 h2 l0 l1 hr0 hPQ hs hP hQ t1 t2 t3 t4 hY hu hL a1 a2 hy1 hy0 hd1 hd0 k0 k1
    have hd1 := c1
    have hd0 := c0
    have hu1 : u < y1 * 4294967296 + y0 := by omega
    have D0 := Lib.hid (Dig.start (y0 := y0) (u := u) (d := d1) y1p y00 u0 c1)
    have hq1 := dig_start_le y1g y01 hu1
    have v0 := D0.out.q0
    have v1 := D0.out.r0
    have v2 : u / y1 * y1 ≤ u := by omega
    have v3 := Int.mul_nonneg v0 (Int.le_of_lt y1p)
    have hr1 : u - u / y1 * y1 < 4294967296 := by
      have := dig_rest u y1
      have := Int.emod_lt_of_pos u y1p
      omega
    have EY := Lib.hid eY
    clear eY
    go_wp2
    go_loop [15, 16] (fun x z => ∃ q r : Int, x = .int .u64 q ∧ z = .int .u64 r ∧ Hid (Dig y1 y0 u d1 q r) ∧ 0 ≤ q ∧ 0 ≤ r ∧ r < 4294967296 ∧ q ≤ 4294967297) (fun x _ => (intOf x).toNat)
    case atStart =>
      exact ⟨_, _, rfl, rfl, D0, D0.q0, D0.r0, hr1, hq1⟩
    case round =>
      obtain ⟨q, r, rfl, rfl, D, q0, r0, r1, q1⟩ := hrel
      by_cases w1 : 4294967296 ≤ q
      · obtain ⟨p0, hp⟩ := D.out.wrong y00 hu1 hd1 hd0 hYp (.inl w1)
        have D' := Lib.hid (D.out.next y1p p0 hp)
        clear hp
        by_cases w2 : 4294967296 ≤ r + y1
        · have hf := D'.out.stop y01 y00 hd0 (by omega) w2
          rw [← EY.out] at hf
          have g1 := dig_rest (u * 4294967296 + d1) Y
          rw [hf] at g1
          obtain ⟨b0', b1'⟩ := rest_bd (n := u * 4294967296 + d1) (y := Y) (by omega)
          obtain ⟨g0, g2⟩ := dig_lt (u := u) (d := d1) (y := Y) u0 c0 u1 c1
          rw [hf] at T1 g0 g2
          obtain ⟨rv, hrv⟩ : ∃ r, r = (u * 4294967296 + d1) % Y := ⟨_, rfl⟩
          rw [← hrv] at T1 T4 g1 b0' b1'
          obtain ⟨z1, z2, z3, f1, f2, f3, f4⟩ := chain (a := u) (d := d1) (p := (q - 1) * Y) (r := rv) (by omega) b0' (by omega)
          have rv0 := b0'
          have rv1 := b1'
          obtain ⟨qv, hqv⟩ : ∃ z, z = q - 1 := ⟨_, rfl⟩
          clear D0 hq1 v0 v1 v2 v3 hr1 hu1 hd1 hd0
          have hu1 : rv < y1 * 4294967296 + y0 := by have := EY.out; omega
          have hd1 := c3
          have hd0 := c2
          have D0 := Lib.hid (Dig.start (y0 := y0) (u := rv) (d := d0) y1p y00 rv0 c3)
          have hq1 := dig_start_le y1g y01 hu1
          have v0 := D0.out.q0
          have v1 := D0.out.r0
          have v2 : rv / y1 * y1 ≤ rv := by omega
          have v3 := Int.mul_nonneg v0 (Int.le_of_lt y1p)
          have hr1 : rv - rv / y1 * y1 < 4294967296 := by
            have := dig_rest rv y1
            have := Int.emod_lt_of_pos rv y1p
            omega
          clear hrv g1 hf
          go_wp2
          go_loop [18, 16] (fun x z => ∃ q r : Int, x = .int .u64 q ∧ z = .int .u64 r ∧ Hid (Dig y1 y0 rv d0 q r) ∧ 0 ≤ q ∧ 0 ≤ r ∧ r < 4294967296 ∧ q ≤ 4294967297) (fun x _ => (intOf x).toNat)
          case atStart =>
            exact ⟨_, _, rfl, rfl, D0, D0.q0, D0.r0, hr1, hq1⟩
          case round =>
            obtain ⟨q, r, rfl, rfl, D, q0, r0, r1, q1⟩ := hrel
            by_cases w1 : 4294967296 ≤ q
            · obtain ⟨p0, hp⟩ := D.out.wrong y00 hu1 hd1 hd0 hYp (.inl w1)
              have D' := Lib.hid (D.out.next y1p p0 hp)
              clear hp
              by_cases w2 : 4294967296 ≤ r + y1
              · have hf := D'.out.stop y01 y00 hd0 (by omega) w2
                rw [← EY.out] at hf
                have g1 := dig_rest (rv * 4294967296 + d0) Y
                rw [hf] at g1
                obtain ⟨b0', b1'⟩ := rest_bd (n := rv * 4294967296 + d0) (y := Y) (by omega)
                obtain ⟨g0, g2⟩ := dig_lt (u := rv) (d := d0) (y := Y) rv0 c2 rv1 c3
                rw [hf] at T1 g0 g2
                obtain ⟨rw', hrw⟩ : ∃ r, r = (rv * 4294967296 + d0) % Y := ⟨_, rfl⟩
                rw [← hrw] at T4 g1 b0' b1'
                obtain ⟨x1, x2, x3, f5, f6, f7, f8⟩ := chain (a := rv) (d := d0) (p := (q - 1) * Y) (r := rw') (by omega) b0' (by omega)
                clear hrw g1 hf
                go_wp2
                go_ret2
                rw [← T1.out, ← T4.out]
                exact ⟨rfl, by (repeat (first | exact Below.refl _ _ | assumption | (refine Below.alloc ?_ (by first | omega | (simp; omega) | (simp; done)) _) | (refine Below.setCell ?_ (by first | omega | (simp; omega) | (simp; done)) _) | (refine Below.drew ?_) | (refine belowN ?_ _) | (refine Below.trans ?_ (Below.mono ‹Below _ _ _› (by first | omega | (simp; omega) | (simp; done))))))⟩
              · have w3 : r + y1 < 4294967296 := by omega
                go_wp2
                go_round
                case rel => exact ⟨q - 1, r + y1, by go_num, by go_num, D', by omega, by omega, by omega, by omega⟩
                case measure => simp [intOf]; omega
            · have w0 : q < 4294967296 := by omega
              have m0 := Int.mul_nonneg q0 y00
              have m1 := Int.mul_le_mul (show q ≤ 4294967295 by omega) (show y0 ≤ 4294967295 by omega) y00 (by omega)
              by_cases w4 : 4294967296 * r + d0 < q * y0
              · obtain ⟨p0, hp⟩ := D.out.wrong y00 hu1 hd1 hd0 hYp (.inr w4)
                have D' := Lib.hid (D.out.next y1p p0 hp)
                clear hp
                by_cases w2 : 4294967296 ≤ r + y1
                · have hf := D'.out.stop y01 y00 hd0 (by omega) w2
                  rw [← EY.out] at hf
                  have g1 := dig_rest (rv * 4294967296 + d0) Y
                  rw [hf] at g1
                  obtain ⟨b0', b1'⟩ := rest_bd (n := rv * 4294967296 + d0) (y := Y) (by omega)
                  obtain ⟨g0, g2⟩ := dig_lt (u := rv) (d := d0) (y := Y) rv0 c2 rv1 c3
                  rw [hf] at T1 g0 g2
                  obtain ⟨rw', hrw⟩ : ∃ r, r = (rv * 4294967296 + d0) % Y := ⟨_, rfl⟩
                  rw [← hrw] at T4 g1 b0' b1'
                  obtain ⟨x1, x2, x3, f5, f6, f7, f8⟩ := chain (a := rv) (d := d0) (p := (q - 1) * Y) (r := rw') (by omega) b0' (by omega)
                  clear hrw g1 hf
                  go_wp2
                  go_ret2
                  rw [← T1.out, ← T4.out]
                  exact ⟨rfl, by (repeat (first | exact Below.refl _ _ | assumption | (refine Below.alloc ?_ (by first | omega | (simp; omega) | (simp; done)) _) | (refine Below.setCell ?_ (by first | omega | (simp; omega) | (simp; done)) _) | (refine Below.drew ?_) | (refine belowN ?_ _) | (refine Below.trans ?_ (Below.mono ‹Below _ _ _› (by first | omega | (simp; omega) | (simp; done))))))⟩
                · have w3 : r + y1 < 4294967296 := by omega
                  go_wp2
                  go_round
                  case rel => exact ⟨q - 1, r + y1, by go_num, by go_num, D', by omega, by omega, by omega, by omega⟩
                  case measure => simp [intOf]; omega
              · have hf := D.out.found (by omega)
                have w5 : q * y0 ≤ 4294967296 * r + d0 := by omega
                rw [← EY.out] at hf
                have g1 := dig_rest (rv * 4294967296 + d0) Y
                rw [hf] at g1
                obtain ⟨b0', b1'⟩ := rest_bd (n := rv * 4294967296 + d0) (y := Y) (by omega)
                obtain ⟨g0, g2⟩ := dig_lt (u := rv) (d := d0) (y := Y) rv0 c2 rv1 c3
                rw [hf] at T1 g0 g2
                obtain ⟨rw', hrw⟩ : ∃ r, r = (rv * 4294967296 + d0) % Y := ⟨_, rfl⟩
                rw [← hrw] at T4 g1 b0' b1'
                obtain ⟨x1, x2, x3, f5, f6, f7, f8⟩ := chain (a := rv) (d := d0) (p := (q) * Y) (r := rw') (by omega) b0' (by omega)
                clear hrw g1 hf
                go_wp2
                go_ret2
                rw [← T1.out, ← T4.out]
                exact ⟨rfl, by (repeat (first | exact Below.refl _ _ | assumption | (refine Below.alloc ?_ (by first | omega | (simp; omega) | (simp; done)) _) | (refine Below.setCell ?_ (by first | omega | (simp; omega) | (simp; done)) _) | (refine Below.drew ?_) | (refine belowN ?_ _) | (refine Below.trans ?_ (Below.mono ‹Below _ _ _› (by first | omega | (simp; omega) | (simp; done))))))⟩
        · have w3 : r + y1 < 4294967296 := by omega
          go_wp2
          go_round
          case rel => exact ⟨q - 1, r + y1, by go_num, by go_num, D', by omega, by omega, by omega, by omega⟩
          case measure => simp [intOf]; omega
      · have w0 : q < 4294967296 := by omega
        have m0 := Int.mul_nonneg q0 y00
        have m1 := Int.mul_le_mul (show q ≤ 4294967295 by omega) (show y0 ≤ 4294967295 by omega) y00 (by omega)
        by_cases w4 : 4294967296 * r + d1 < q * y0
        · obtain ⟨p0, hp⟩ := D.out.wrong y00 hu1 hd1 hd0 hYp (.inr w4)
          have D' := Lib.hid (D.out.next y1p p0 hp)
          clear hp
          by_cases w2 : 4294967296 ≤ r + y1
          · have hf := D'.out.stop y01 y00 hd0 (by omega) w2
            rw [← EY.out] at hf
            have g1 := dig_rest (u * 4294967296 + d1) Y
            rw [hf] at g1
            obtain ⟨b0', b1'⟩ := rest_bd (n := u * 4294967296 + d1) (y := Y) (by omega)
            obtain ⟨g0, g2⟩ := dig_lt (u := u) (d := d1) (y := Y) u0 c0 u1 c1
            rw [hf] at T1 g0 g2
            obtain ⟨rv, hrv⟩ : ∃ r, r = (u * 4294967296 + d1) % Y := ⟨_, rfl⟩
            rw [← hrv] at T1 T4 g1 b0' b1'
            obtain ⟨z1, z2, z3, f1, f2, f3, f4⟩ := chain (a := u) (d := d1) (p := (q - 1) * Y) (r := rv) (by omega) b0' (by omega)
            have rv0 := b0'
            have rv1 := b1'
            obtain ⟨qv, hqv⟩ : ∃ z, z = q - 1 := ⟨_, rfl⟩
            clear D0 hq1 v0 v1 v2 v3 hr1 hu1 hd1 hd0
            have hu1 : rv < y1 * 4294967296 + y0 := by have := EY.out; omega
            have hd1 := c3
            have hd0 := c2
            have D0 := Lib.hid (Dig.start (y0 := y0) (u := rv) (d := d0) y1p y00 rv0 c3)
            have hq1 := dig_start_le y1g y01 hu1
            have v0 := D0.out.q0
            have v1 := D0.out.r0
            have v2 : rv / y1 * y1 ≤ rv := by omega
            have v3 := Int.mul_nonneg v0 (Int.le_of_lt y1p)
            have hr1 : rv - rv / y1 * y1 < 4294967296 := by
              have := dig_rest rv y1
              have := Int.emod_lt_of_pos rv y1p
              omega
            clear hrv g1 hf
            go_wp2
            go_loop [18, 16] (fun x z => ∃ q r : Int, x = .int .u64 q ∧ z = .int .u64 r ∧ Hid (Dig y1 y0 rv d0 q r) ∧ 0 ≤ q ∧ 0 ≤ r ∧ r < 4294967296 ∧ q ≤ 4294967297) (fun x _ => (intOf x).toNat)
            case atStart =>
              exact ⟨_, _, rfl, rfl, D0, D0.q0, D0.r0, hr1, hq1⟩
            case round =>
              obtain ⟨q, r, rfl, rfl, D, q0, r0, r1, q1⟩ := hrel
              by_cases w1 : 4294967296 ≤ q
              · obtain ⟨p0, hp⟩ := D.out.wrong y00 hu1 hd1 hd0 hYp (.inl w1)
                have D' := Lib.hid (D.out.next y1p p0 hp)
                clear hp
                by_cases w2 : 4294967296 ≤ r + y1
                · have hf := D'.out.stop y01 y00 hd0 (by omega) w2
                  rw [← EY.out] at hf
                  have g1 := dig_rest (rv * 4294967296 + d0) Y
                  rw [hf] at g1
                  obtain ⟨b0', b1'⟩ := rest_bd (n := rv * 4294967296 + d0) (y := Y) (by omega)
                  obtain ⟨g0, g2⟩ := dig_lt (u := rv) (d := d0) (y := Y) rv0 c2 rv1 c3
                  rw [hf] at T1 g0 g2
                  obtain ⟨rw', hrw⟩ : ∃ r, r = (rv * 4294967296 + d0) % Y := ⟨_, rfl⟩
                  rw [← hrw] at T4 g1 b0' b1'
                  obtain ⟨x1, x2, x3, f5, f6, f7, f8⟩ := chain (a := rv) (d := d0) (p := (q - 1) * Y) (r := rw') (by omega) b0' (by omega)
                  clear hrw g1 hf
                  go_wp2
                  go_ret2
                  rw [← T1.out, ← T4.out]
                  exact ⟨rfl, by (repeat (first | exact Below.refl _ _ | assumption | (refine Below.alloc ?_ (by first | omega | (simp; omega) | (simp; done)) _) | (refine Below.setCell ?_ (by first | omega | (simp; omega) | (simp; done)) _) | (refine Below.drew ?_) | (refine belowN ?_ _) | (refine Below.trans ?_ (Below.mono ‹Below _ _ _› (by first | omega | (simp; omega) | (simp; done))))))⟩
                · have w3 : r + y1 < 4294967296 := by omega
                  go_wp2
                  go_round
                  case rel => exact ⟨q - 1, r + y1, by go_num, by go_num, D', by omega, by omega, by omega, by omega⟩
                  case measure => simp [intOf]; omega
              · have w0 : q < 4294967296 := by omega
                have m0 := Int.mul_nonneg q0 y00
                have m1 := Int.mul_le_mul (show q ≤ 4294967295 by omega) (show y0 ≤ 4294967295 by omega) y00 (by omega)
                by_cases w4 : 4294967296 * r + d0 < q * y0
                · obtain ⟨p0, hp⟩ := D.out.wrong y00 hu1 hd1 hd0 hYp (.inr w4)
                  have D' := Lib.hid (D.out.next y1p p0 hp)
                  clear hp
                  by_cases w2 : 4294967296 ≤ r + y1
                  · have hf := D'.out.stop y01 y00 hd0 (by omega) w2
                    rw [← EY.out] at hf
                    have g1 := dig_rest (rv * 4294967296 + d0) Y
                    rw [hf] at g1
                    obtain ⟨b0', b1'⟩ := rest_bd (n := rv * 4294967296 + d0) (y := Y) (by omega)
                    obtain ⟨g0, g2⟩ := dig_lt (u := rv) (d := d0) (y := Y) rv0 c2 rv1 c3
                    rw [hf] at T1 g0 g2
                    obtain ⟨rw', hrw⟩ : ∃ r, r = (rv * 4294967296 + d0) % Y := ⟨_, rfl⟩
                    rw [← hrw] at T4 g1 b0' b1'
                    obtain ⟨x1, x2, x3, f5, f6, f7, f8⟩ := chain (a := rv) (d := d0) (p := (q - 1) * Y) (r := rw') (by omega) b0' (by omega)
                    clear hrw g1 hf
                    go_wp2
                    go_ret2
                    rw [← T1.out, ← T4.out]
                    exact ⟨rfl, by (repeat (first | exact Below.refl _ _ | assumption | (refine Below.alloc ?_ (by first | omega | (simp; omega) | (simp; done)) _) | (refine Below.setCell ?_ (by first | omega | (simp; omega) | (simp; done)) _) | (refine Below.drew ?_) | (refine belowN ?_ _) | (refine Below.trans ?_ (Below.mono ‹Below _ _ _› (by first | omega | (simp; omega) | (simp; done))))))⟩
                  · have w3 : r + y1 < 4294967296 := by omega
                    go_wp2
                    go_round
                    case rel => exact ⟨q - 1, r + y1, by go_num, by go_num, D', by omega, by omega, by omega, by omega⟩
                    case measure => simp [intOf]; omega
                · have hf := D.out.found (by omega)
                  have w5 : q * y0 ≤ 4294967296 * r + d0 := by omega
                  rw [← EY.out] at hf
                  have g1 := dig_rest (rv * 4294967296 + d0) Y
                  rw [hf] at g1
                  obtain ⟨b0', b1'⟩ := rest_bd (n := rv * 4294967296 + d0) (y := Y) (by omega)
                  obtain ⟨g0, g2⟩ := dig_lt (u := rv) (d := d0) (y := Y) rv0 c2 rv1 c3
                  rw [hf] at T1 g0 g2
                  obtain ⟨rw', hrw⟩ : ∃ r, r = (rv * 4294967296 + d0) % Y := ⟨_, rfl⟩
                  rw [← hrw] at T4 g1 b0' b1'
                  obtain ⟨x1, x2, x3, f5, f6, f7, f8⟩ := chain (a := rv) (d := d0) (p := (q) * Y) (r := rw') (by omega) b0' (by omega)
                  clear hrw g1 hf
                  go_wp2
                  go_ret2
                  rw [← T1.out, ← T4.out]
                  exact ⟨rfl, by (repeat (first | exact Below.refl _ _ | assumption | (refine Below.alloc ?_ (by first | omega | (simp; omega) | (simp; done)) _) | (refine Below.setCell ?_ (by first | omega | (simp; omega) | (simp; done)) _) | (refine Below.drew ?_) | (refine belowN ?_ _) | (refine Below.trans ?_ (Below.mono ‹Below _ _ _› (by first | omega | (simp; omega) | (simp; done))))))⟩
          · have w3 : r + y1 < 4294967296 := by omega
            go_wp2
            go_round
            case rel => exact ⟨q - 1, r + y1, by go_num, by go_num, D', by omega, by omega, by omega, by omega⟩
            case measure => simp [intOf]; omega
        · have hf := D.out.found (by omega)
          have w5 : q * y0 ≤ 4294967296 * r + d1 := by omega
          rw [← EY.out] at hf
          have g1 := dig_rest (u * 4294967296 + d1) Y
          rw [hf] at g1
          obtain ⟨b0', b1'⟩ := rest_bd (n := u * 4294967296 + d1) (y := Y) (by omega)
          obtain ⟨g0, g2⟩ := dig_lt (u := u) (d := d1) (y := Y) u0 c0 u1 c1
          rw [hf] at T1 g0 g2
          obtain ⟨rv, hrv⟩ : ∃ r, r = (u * 4294967296 + d1) % Y := ⟨_, rfl⟩
          rw [← hrv] at T1 T4 g1 b0' b1'
          obtain ⟨z1, z2, z3, f1, f2, f3, f4⟩ := chain (a := u) (d := d1) (p := (q) * Y) (r := rv) (by omega) b0' (by omega)
          have rv0 := b0'
          have rv1 := b1'
          obtain ⟨qv, hqv⟩ : ∃ z, z = q := ⟨_, rfl⟩
          clear D0 hq1 v0 v1 v2 v3 hr1 hu1 hd1 hd0
          have hu1 : rv < y1 * 4294967296 + y0 := by have := EY.out; omega
          have hd1 := c3
          have hd0 := c2
          have D0 := Lib.hid (Dig.start (y0 := y0) (u := rv) (d := d0) y1p y00 rv0 c3)
          have hq1 := dig_start_le y1g y01 hu1
          have v0 := D0.out.q0
          have v1 := D0.out.r0
          have v2 : rv / y1 * y1 ≤ rv := by omega
          have v3 := Int.mul_nonneg v0 (Int.le_of_lt y1p)
          have hr1 : rv - rv / y1 * y1 < 4294967296 := by
            have := dig_rest rv y1
            have := Int.emod_lt_of_pos rv y1p
            omega
          clear hrv g1 hf
          go_wp2
          go_loop [18, 16] (fun x z => ∃ q r : Int, x = .int .u64 q ∧ z = .int .u64 r ∧ Hid (Dig y1 y0 rv d0 q r) ∧ 0 ≤ q ∧ 0 ≤ r ∧ r < 4294967296 ∧ q ≤ 4294967297) (fun x _ => (intOf x).toNat)
          case atStart =>
            exact ⟨_, _, rfl, rfl, D0, D0.q0, D0.r0, hr1, hq1⟩
          case round =>
            obtain ⟨q, r, rfl, rfl, D, q0, r0, r1, q1⟩ := hrel
            by_cases w1 : 4294967296 ≤ q
            · obtain ⟨p0, hp⟩ := D.out.wrong y00 hu1 hd1 hd0 hYp (.inl w1)
              have D' := Lib.hid (D.out.next y1p p0 hp)
              clear hp
              by_cases w2 : 4294967296 ≤ r + y1
              · have hf := D'.out.stop y01 y00 hd0 (by omega) w2
                rw [← EY.out] at hf
                have g1 := dig_rest (rv * 4294967296 + d0) Y
                rw [hf] at g1
                obtain ⟨b0', b1'⟩ := rest_bd (n := rv * 4294967296 + d0) (y := Y) (by omega)
                obtain ⟨g0, g2⟩ := dig_lt (u := rv) (d := d0) (y := Y) rv0 c2 rv1 c3
                rw [hf] at T1 g0 g2
                obtain ⟨rw', hrw⟩ : ∃ r, r = (rv * 4294967296 + d0) % Y := ⟨_, rfl⟩
                rw [← hrw] at T4 g1 b0' b1'
                obtain ⟨x1, x2, x3, f5, f6, f7, f8⟩ := chain (a := rv) (d := d0) (p := (q - 1) * Y) (r := rw') (by omega) b0' (by omega)
                clear hrw g1 hf
                go_wp2
                go_ret2
                rw [← T1.out, ← T4.out]
                exact ⟨rfl, by (repeat (first | exact Below.refl _ _ | assumption | (refine Below.alloc ?_ (by first | omega | (simp; omega) | (simp; done)) _) | (refine Below.setCell ?_ (by first | omega | (simp; omega) | (simp; done)) _) | (refine Below.drew ?_) | (refine belowN ?_ _) | (refine Below.trans ?_ (Below.mono ‹Below _ _ _› (by first | omega | (simp; omega) | (simp; done))))))⟩
              · have w3 : r + y1 < 4294967296 := by omega
                go_wp2
                go_round
                case rel => exact ⟨q - 1, r + y1, by go_num, by go_num, D', by omega, by omega, by omega, by omega⟩
                case measure => simp [intOf]; omega
            · have w0 : q < 4294967296 := by omega
              have m0 := Int.mul_nonneg q0 y00
              have m1 := Int.mul_le_mul (show q ≤ 4294967295 by omega) (show y0 ≤ 4294967295 by omega) y00 (by omega)
              by_cases w4 : 4294967296 * r + d0 < q * y0
              · obtain ⟨p0, hp⟩ := D.out.wrong y00 hu1 hd1 hd0 hYp (.inr w4)
                have D' := Lib.hid (D.out.next y1p p0 hp)
                clear hp
                by_cases w2 : 4294967296 ≤ r + y1
                · have hf := D'.out.stop y01 y00 hd0 (by omega) w2
                  rw [← EY.out] at hf
                  have g1 := dig_rest (rv * 4294967296 + d0) Y
                  rw [hf] at g1
                  obtain ⟨b0', b1'⟩ := rest_bd (n := rv * 4294967296 + d0) (y := Y) (by omega)
                  obtain ⟨g0, g2⟩ := dig_lt (u := rv) (d := d0) (y := Y) rv0 c2 rv1 c3
                  rw [hf] at T1 g0 g2
                  obtain ⟨rw', hrw⟩ : ∃ r, r = (rv * 4294967296 + d0) % Y := ⟨_, rfl⟩
                  rw [← hrw] at T4 g1 b0' b1'
                  obtain ⟨x1, x2, x3, f5, f6, f7, f8⟩ := chain (a := rv) (d := d0) (p := (q - 1) * Y) (r := rw') (by omega) b0' (by omega)
                  clear hrw g1 hf
                  go_wp2
                  go_ret2
                  rw [← T1.out, ← T4.out]
                  exact ⟨rfl, by (repeat (first | exact Below.refl _ _ | assumption | (refine Below.alloc ?_ (by first | omega | (simp; omega) | (simp; done)) _) | (refine Below.setCell ?_ (by first | omega | (simp; omega) | (simp; done)) _) | (refine Below.drew ?_) | (refine belowN ?_ _) | (refine Below.trans ?_ (Below.mono ‹Below _ _ _› (by first | omega | (simp; omega) | (simp; done))))))⟩
                · have w3 : r + y1 < 4294967296 := by omega
                  go_wp2
                  go_round
                  case rel => exact ⟨q - 1, r + y1, by go_num, by go_num, D', by omega, by omega, by omega, by omega⟩
                  case measure => simp [intOf]; omega
              · have hf := D.out.found (by omega)
                have w5 : q * y0 ≤ 4294967296 * r + d0 := by omega
                rw [← EY.out] at hf
                have g1 := dig_rest (rv * 4294967296 + d0) Y
                rw [hf] at g1
                obtain ⟨b0', b1'⟩ := rest_bd (n := rv * 4294967296 + d0) (y := Y) (by omega)
                obtain ⟨g0, g2⟩ := dig_lt (u := rv) (d := d0) (y := Y) rv0 c2 rv1 c3
                rw [hf] at T1 g0 g2
                obtain ⟨rw', hrw⟩ : ∃ r, r = (rv * 4294967296 + d0) % Y := ⟨_, rfl⟩
                rw [← hrw] at T4 g1 b0' b1'
                obtain ⟨x1, x2, x3, f5, f6, f7, f8⟩ := chain (a := rv) (d := d0) (p := (q) * Y) (r := rw') (by omega) b0' (by omega)
                clear hrw g1 hf
                go_wp2
                go_ret2
                rw [← T1.out, ← T4.out]
                exact ⟨rfl, by (repeat (first | exact Below.refl _ _ | assumption | (refine Below.alloc ?_ (by first | omega | (simp; omega) | (simp; done)) _) | (refine Below.setCell ?_ (by first | omega | (simp; omega) | (simp; done)) _) | (refine Below.drew ?_) | (refine belowN ?_ _) | (refine Below.trans ?_ (Below.mono ‹Below _ _ _› (by first | omega | (simp; omega) | (simp; done))))))⟩
end Go.Proofs.Ytiikkcifdhcejaa

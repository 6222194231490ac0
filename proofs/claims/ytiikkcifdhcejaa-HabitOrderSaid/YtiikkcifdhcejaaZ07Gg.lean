/- odds: small, by the library's product of two words. -/
import Derived.Test.YtiikkcifdhcejaaZ06Pg
import Derived.Lib.Mul64
import Derived.Laws.Bits64b
import Derived.Lib.Hide
namespace Go.Proofs.Ytiikkcifdhcejaa
open Go.RowKit

theorem low32 (a : Nat) (ha : a < 18446744073709551616) : bits .and .u64 (a : Int) 4294967295 = ((a % 4294967296 : Nat) : Int) := by
  have h := bits_and_u64_nat a 4294967295 ha (by omega)
  rw [show a &&& 4294967295 = a % 4294967296 from Nat.and_two_pow_sub_one_eq_mod a 32] at h
  exact h
theorem high32 (a : Nat) : (a : Int) / 4294967296 = ((a / 4294967296 : Nat) : Int) := by omega
theorem mulNN (a b : Nat) : (a : Int) * (b : Int) = ((a * b : Nat) : Int) := (Int.natCast_mul a b).symm
theorem addNN (a b : Nat) : (a : Int) + (b : Int) = ((a + b : Nat) : Int) := (Int.natCast_add a b).symm
theorem wrapNN (a : Nat) (ha : a < 18446744073709551616) : IntKind.u64.wrap (a : Int) = (a : Int) := by rw [IntKind.wrap_u64]; omega
theorem wrapMM (a : Nat) : IntKind.u64.wrap (a : Int) = ((a % 18446744073709551616 : Nat) : Int) := by rw [IntKind.wrap_u64]; omega
set_option maxRecDepth 100000 in
set_option maxHeartbeats 2000000 in
theorem mul64_any (x y : Nat) (hx : x < 18446744073709551616) (hy : y < 18446744073709551616) (w : World) :
    Calls Try.prog 90 #[.int .u64 x, .int .u64 y] w fun e w' => e = .returned (.tuple #[.int .u64 ((x * y / 18446744073709551616 : Nat) : Int), .int .u64 ((x * y % 18446744073709551616 : Nat) : Int)]) ∧ w = w' := by
  obtain ⟨bd, bt, bw, hhi⟩ := Lib.mul64_hi x y hx hy
  have ba := Lib.half_mul_le (a := x / 4294967296) (b := y / 4294967296) (by omega) (by omega)
  have bb := Lib.half_mul_le (a := x / 4294967296) (b := y % 4294967296) (by omega) (by omega)
  have bc := Lib.half_mul_le (a := x % 4294967296) (b := y / 4294967296) (by omega) (by omega)
  obtain ⟨p, hp⟩ : ∃ p, p = x / 4294967296 * (y / 4294967296) := ⟨_, rfl⟩
  obtain ⟨q, hq⟩ : ∃ q, q = x / 4294967296 * (y % 4294967296) := ⟨_, rfl⟩
  obtain ⟨r, hr⟩ : ∃ r, r = x % 4294967296 * (y / 4294967296) := ⟨_, rfl⟩
  obtain ⟨s, hs⟩ : ∃ s, s = x % 4294967296 * (y % 4294967296) := ⟨_, rfl⟩
  rw [← hp] at ba
  rw [← hq] at bb
  rw [← hr] at bc
  rw [← hs] at bd
  rw [← hq, ← hs] at bt
  rw [← hq, ← hr, ← hs] at bw
  rw [← hp, ← hq, ← hr, ← hs] at hhi
  have b1 : q < 18446744073709551616 := by omega
  have b2 : r < 18446744073709551616 := by omega
  have b3 : p < 18446744073709551616 := by omega
  have b4 : p + (q + s / 4294967296) / 4294967296 < 18446744073709551616 := by omega
  have b5 : p + (q + s / 4294967296) / 4294967296 + ((q + s / 4294967296) % 4294967296 + r) / 4294967296 < 18446744073709551616 := by omega
  have HH := Lib.hid hhi; have HP := Lib.hid hp; have HQ := Lib.hid hq; have HR := Lib.hid hr; have HS := Lib.hid hs
  clear hhi hp hq hr hs ba bb bc
  go_enter Try.func90, Try.ntmps90
  go_wp2
  simp only [low32 x hx, low32 y hy, high32, mulNN, ← HP.out, ← HQ.out, ← HR.out, ← HS.out, wrapNN _ bd, addNN, wrapNN _ b1, wrapNN _ bt, low32 _ bt, wrapNN _ b2, wrapNN _ bw, wrapNN _ b3, wrapNN _ b4, wrapNN _ b5, wrapMM (x * y)]
  go_ret2
  rw [HH.out]
  exact ⟨rfl, rfl⟩
/-- a product is at most 10^15 -/
def smallB (a b : Int) : Bool := decide (a * b ≤ 1000000000000000)
theorem u64_of {a : Int} (h0 : 0 ≤ a) (h1 : a ≤ 9223372036854775807) : IntKind.u64.wrap a = a := by rw [IntKind.wrap_u64]; omega
set_option maxRecDepth 100000 in
theorem small_any (a b : Int) (w : World) (ha : 0 ≤ a) (hb : 0 ≤ b) (ha' : a ≤ 9223372036854775807) (hb' : b ≤ 9223372036854775807) : Calls Try.prog 70 #[.int .i64 a, .int .i64 b] w fun e w' => e = .returned (.bool (smallB a b)) ∧ w = w' := by
  obtain ⟨x, rfl⟩ := Int.eq_ofNat_of_zero_le ha
  obtain ⟨y, rfl⟩ := Int.eq_ofNat_of_zero_le hb
  have HM := Lib.hid (fun w => mul64_any x y (by omega) (by omega) w)
  have hS : smallB x y = decide (x * y ≤ 1000000000000000) := by
    unfold smallB; rw [mulNN]
    exact decide_eq_decide.2 (by omega)
  by_cases h0 : x * y / 18446744073709551616 = 0
  · have HT : Hid (smallB x y = decide (x * y % 18446744073709551616 ≤ 1000000000000000)) := (by rw [hS, Nat.mod_eq_of_lt (by omega)] : smallB x y = _)
    obtain ⟨p, hp⟩ : ∃ p, p = x * y % 18446744073709551616 := ⟨_, rfl⟩
    rw [h0] at HM
    rw [← hp] at HM HT
    have dp : decide ((p : Int) ≤ 1000000000000000) = decide (p ≤ 1000000000000000) := decide_eq_decide.2 (by omega)
    clear h0 hS hp
    go_enter Try.func70, Try.ntmps70
    go_wp2_with (go_at_call 90; refine (HM.out _).mono ?_; rintro _ _ ⟨rfl, rfl⟩)
    go_ret
    exact ⟨ret_bool (by rw [HT.out]), rfl⟩
  · have HT : Hid (smallB x y = false) := (by rw [hS]; simp only [decide_eq_false_iff_not]; omega : smallB x y = _)
    obtain ⟨p, hp⟩ : ∃ p, p = x * y % 18446744073709551616 := ⟨_, rfl⟩
    obtain ⟨q, hq⟩ : ∃ q, q = x * y / 18446744073709551616 := ⟨_, rfl⟩
    have hb0 : ((q : Int) == 0) = false := by rw [hq]; simp only [beq_eq_false_iff_ne, ne_eq]; omega
    rw [← hp, ← hq] at HM
    clear h0 hS hp hq
    go_enter Try.func70, Try.ntmps70
    go_wp2_with (go_at_call 90; refine (HM.out _).mono ?_; rintro _ _ ⟨rfl, rfl⟩)
    go_ret
    exact ⟨ret_bool (by rw [HT.out]), rfl⟩
end Go.Proofs.Ytiikkcifdhcejaa
namespace Go.Proofs.Ytiikkcifdhcejaa

theorem div_fix {n y q : Int} (h1 : q * y ≤ n) (h2 : n < (q + 1) * y) : n / y = q := by
  have hy : 0 < y := by rw [Int.add_mul, Int.one_mul] at h2; omega
  have e : n = (n - q * y) + q * y := by omega
  rw [Int.add_mul, Int.one_mul] at h2
  rw [e, Int.add_mul_ediv_right _ _ (by omega), Int.ediv_eq_zero_of_lt (by omega) (by omega)]
  omega
theorem dig_low {y1 y0 u d q r : Int} (hu : u = q * y1 + r) (h : q * y0 ≤ 4294967296 * r + d) : q * (y1 * 4294967296 + y0) ≤ u * 4294967296 + d := by
  rw [Int.mul_add, ← Int.mul_assoc]
  omega
theorem dig_high {y1 y0 u d q r : Int} (hu : u = q * y1 + r) (h : 4294967296 * r + d < q * y0) : u * 4294967296 + d < q * (y1 * 4294967296 + y0) := by
  rw [Int.mul_add, ← Int.mul_assoc]
  omega
/-- what holds of an estimate q with its rest r: no digit is greater -/
structure Dig (y1 y0 u d q r : Int) : Prop where
  eq : u = q * y1 + r
  up : u * 4294967296 + d < (q + 1) * (y1 * 4294967296 + y0)
  q0 : 0 ≤ q
  r0 : 0 ≤ r
theorem Dig.start {y1 y0 u d : Int} (h1 : 0 < y1) (h0 : 0 ≤ y0) (hu : 0 ≤ u) (hd : d < 4294967296) : Dig y1 y0 u d (u / y1) (u - u / y1 * y1) := by
  have e := Int.mul_ediv_add_emod u y1
  have hr := Int.emod_lt_of_pos u h1
  have hr0 := Int.emod_nonneg u (show y1 ≠ 0 by omega)
  have hc := Int.mul_comm y1 (u / y1)
  rw [hc] at e
  have hq := Int.ediv_nonneg hu (show 0 ≤ y1 by omega)
  have h2 := Int.mul_nonneg (show 0 ≤ u / y1 + 1 by omega) h0
  refine ⟨by omega, ?_, hq, by omega⟩
  rw [Int.mul_add, ← Int.mul_assoc, Int.add_mul (u / y1) 1 y1, Int.one_mul]
  omega
theorem Dig.next {y1 y0 u d q r : Int} (h : Dig y1 y0 u d q r) (h1 : 0 < y1) (hq : 0 < q) (hlt : u * 4294967296 + d < q * (y1 * 4294967296 + y0)) : Dig y1 y0 u d (q - 1) (r + y1) := by
  have e := h.eq
  have r0 := h.r0
  refine ⟨?_, ?_, by omega, by omega⟩
  · rw [Int.sub_mul, Int.one_mul]; omega
  · rw [show q - 1 + 1 = q by omega]; exact hlt
theorem Dig.wrong {y1 y0 u d q r : Int} (h : Dig y1 y0 u d q r) (_h0 : 0 ≤ y0) (hu : u < y1 * 4294967296 + y0) (hd : d < 4294967296) (hd0 : 0 ≤ d) (hy : 0 < y1 * 4294967296 + y0) (hw : 4294967296 ≤ q ∨ 4294967296 * r + d < q * y0) : 0 < q ∧ u * 4294967296 + d < q * (y1 * 4294967296 + y0) := by
  have q0 := h.q0
  have r0 := h.r0
  rcases hw with hw | hw
  · refine ⟨by omega, ?_⟩
    have h2 := Int.mul_le_mul_of_nonneg_right hw (show 0 ≤ y1 * 4294967296 + y0 by omega)
    omega
  · refine ⟨?_, dig_high h.eq hw⟩
    rcases Int.lt_or_eq_of_le q0 with h1 | h1
    · exact h1
    · rw [← h1, Int.zero_mul] at hw; omega
/-- the digit is found -/
theorem Dig.found {y1 y0 u d q r : Int} (h : Dig y1 y0 u d q r) (hl : q * y0 ≤ 4294967296 * r + d) : (u * 4294967296 + d) / (y1 * 4294967296 + y0) = q := by
  have h1 := dig_low h.eq hl
  have h2 := h.up
  exact div_fix h1 h2
theorem Dig.stop {y1 y0 u d q r : Int} (h : Dig y1 y0 u d q r) (h0 : y0 < 4294967296) (h00 : 0 ≤ y0) (hd0 : 0 ≤ d) (hq : q ≤ 4294967296) (hr : 4294967296 ≤ r) : (u * 4294967296 + d) / (y1 * 4294967296 + y0) = q := by
  have h1 := Int.mul_le_mul hq (show y0 ≤ 4294967295 by omega) h00 (by omega)
  exact h.found (Int.le_trans h1 (by omega))
theorem dig_start_le {y1 y0 u : Int} (h1 : 2147483648 ≤ y1) (h0 : y0 < 4294967296) (hu : u < y1 * 4294967296 + y0) : u / y1 ≤ 4294967297 := by
  have e : 4294967298 * y1 = y1 * 4294967296 + y1 * 2 := by omega
  have : u < 4294967298 * y1 := by rw [e]; omega
  have := Int.ediv_lt_of_lt_mul (show 0 < y1 by omega) this
  omega
/-- the rest behind a digit -/
theorem dig_rest (n y : Int) : n - n / y * y = n % y := by
  have := Int.mul_ediv_add_emod n y
  rw [Int.mul_comm] at this
  omega
/-- two digits, one after another -/
theorem two_digits {y u d1 d0 : Int} (hy : 0 < y) : (u * 18446744073709551616 + d1 * 4294967296 + d0) / y = (u * 4294967296 + d1) / y * 4294967296 + ((u * 4294967296 + d1) % y * 4294967296 + d0) / y ∧
    (u * 18446744073709551616 + d1 * 4294967296 + d0) % y = ((u * 4294967296 + d1) % y * 4294967296 + d0) % y := by
  have e := Int.mul_ediv_add_emod (u * 4294967296 + d1) y
  obtain ⟨a, ha⟩ : ∃ a, a = (u * 4294967296 + d1) / y := ⟨_, rfl⟩
  obtain ⟨b, hb⟩ : ∃ b, b = (u * 4294967296 + d1) % y := ⟨_, rfl⟩
  rw [← ha, ← hb] at e ⊢
  have e2 : u * 18446744073709551616 + d1 * 4294967296 + d0 = (b * 4294967296 + d0) + y * (a * 4294967296) := by
    rw [← Int.mul_assoc]; omega
  rw [e2]
  exact ⟨by rw [Int.add_mul_ediv_left _ _ (by omega), Int.add_comm], by rw [Int.add_mul_emod_self_left]⟩
/-- both words shifted -/
theorem shifted {hi lo P Q : Int} (h : P * Q = 18446744073709551616) : (hi * P + lo / Q) * 18446744073709551616 + lo % Q * P = (hi * 18446744073709551616 + lo) * P := by
  have e := Int.mul_ediv_add_emod lo Q
  have h1 : lo / Q * 18446744073709551616 = Q * (lo / Q) * P := by rw [← h]; ac_rfl
  have h2 : hi * P * 18446744073709551616 = hi * 18446744073709551616 * P := by ac_rfl
  rw [Int.add_mul, Int.add_mul, h1, h2]
  conv => rhs; rw [← e, Int.add_mul]
  omega
end Go.Proofs.Ytiikkcifdhcejaa

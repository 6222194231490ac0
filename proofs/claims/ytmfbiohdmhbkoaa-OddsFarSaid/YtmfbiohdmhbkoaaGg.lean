/- odds: small, by the library's product of two words. -/
import Derived.Test.YtmfbiohdmhbkoaaGf
import Derived.Lib.Mul64
import Derived.Laws.Bits64b
namespace Go.Proofs.Ytmfbiohdmhbkoaa
open Go.RowKit

theorem low32 (a : Nat) (ha : a < 18446744073709551616) : bits .and .u64 (a : Int) 4294967295 = ((a % 4294967296 : Nat) : Int) := by
  have h := bits_and_u64_nat a 4294967295 ha (by omega)
  rw [show a &&& 4294967295 = a % 4294967296 from Nat.and_two_pow_sub_one_eq_mod a 32] at h
  exact h
theorem high32 (a : Nat) : (a : Int) / 4294967296 = ((a / 4294967296 : Nat) : Int) := by omega
theorem mulNN (a b : Nat) : (a : Int) * (b : Int) = ((a * b : Nat) : Int) := (Int.natCast_mul a b).symm
theorem addNN (a b : Nat) : (a : Int) + (b : Int) = ((a + b : Nat) : Int) := (Int.natCast_add a b).symm
theorem wrapNN (a : Nat) (ha : a < 18446744073709551616) : IntKind.u64.wrap (a : Int) = (a : Int) := by rw [IntKind.wrap_u64]; omega
theorem wrapMM (a : Nat) : IntKind.u64.wrap (a : Int) = ((a % 18446744073709551616 : Nat) : Int) := by rw [IntKind.wrap_u64]; omega
set_option maxRecDepth 100000 in
set_option maxHeartbeats 2000000 in
theorem mul64_any (x y : Nat) (hx : x < 18446744073709551616) (hy : y < 18446744073709551616) (w : World) :
    Calls Try.prog 89 #[.int .u64 x, .int .u64 y] w fun e w' => e = .returned (.tuple #[.int .u64 ((x * y / 18446744073709551616 : Nat) : Int), .int .u64 ((x * y % 18446744073709551616 : Nat) : Int)]) ∧ w = w' := by
  obtain ⟨bd, bt, bw, hhi⟩ := Lib.mul64_hi x y hx hy
  have ba := Lib.half_mul_le (a := x / 4294967296) (b := y / 4294967296) (by omega) (by omega)
  have bb := Lib.half_mul_le (a := x / 4294967296) (b := y % 4294967296) (by omega) (by omega)
  have bc := Lib.half_mul_le (a := x % 4294967296) (b := y / 4294967296) (by omega) (by omega)
  obtain ⟨p, hp⟩ : ∃ p, p = x / 4294967296 * (y / 4294967296) := ⟨_, rfl⟩
  obtain ⟨q, hq⟩ : ∃ q, q = x / 4294967296 * (y % 4294967296) := ⟨_, rfl⟩
  obtain ⟨r, hr⟩ : ∃ r, r = x % 4294967296 * (y / 4294967296) := ⟨_, rfl⟩
  obtain ⟨s, hs⟩ : ∃ s, s = x % 4294967296 * (y % 4294967296) := ⟨_, rfl⟩
  rw [← hp] at ba
  rw [← hq] at bb
  rw [← hr] at bc
  rw [← hs] at bd
  rw [← hq, ← hs] at bt
  rw [← hq, ← hr, ← hs] at bw
  rw [← hp, ← hq, ← hr, ← hs] at hhi
  have b1 : q < 18446744073709551616 := by omega
  have b2 : r < 18446744073709551616 := by omega
  have b3 : p < 18446744073709551616 := by omega
  have b4 : p + (q + s / 4294967296) / 4294967296 < 18446744073709551616 := by omega
  have b5 : p + (q + s / 4294967296) / 4294967296 + ((q + s / 4294967296) % 4294967296 + r) / 4294967296 < 18446744073709551616 := by omega
  have HH := Lib.hid hhi; have HP := Lib.hid hp; have HQ := Lib.hid hq; have HR := Lib.hid hr; have HS := Lib.hid hs
  clear hhi hp hq hr hs ba bb bc
  go_enter Try.func89, Try.ntmps89
  go_wp2
  simp only [low32 x hx, low32 y hy, high32, mulNN, ← HP.out, ← HQ.out, ← HR.out, ← HS.out, wrapNN _ bd, addNN, wrapNN _ b1, wrapNN _ bt, low32 _ bt, wrapNN _ b2, wrapNN _ bw, wrapNN _ b3, wrapNN _ b4, wrapNN _ b5, wrapMM (x * y)]
  go_ret2
  rw [HH.out]
  exact ⟨rfl, rfl⟩
/-- a product is at most 10^15 -/
def smallB (a b : Int) : Bool := decide (a * b ≤ 1000000000000000)
theorem u64_of {a : Int} (h0 : 0 ≤ a) (h1 : a ≤ 9223372036854775807) : IntKind.u64.wrap a = a := by rw [IntKind.wrap_u64]; omega
set_option maxRecDepth 100000 in
theorem small_any (a b : Int) (w : World) (ha : 0 ≤ a) (hb : 0 ≤ b) (ha' : a ≤ 9223372036854775807) (hb' : b ≤ 9223372036854775807) : Calls Try.prog 56 #[.int .i64 a, .int .i64 b] w fun e w' => e = .returned (.bool (smallB a b)) ∧ w = w' := by
  obtain ⟨x, rfl⟩ := Int.eq_ofNat_of_zero_le ha
  obtain ⟨y, rfl⟩ := Int.eq_ofNat_of_zero_le hb
  have HM := Lib.hid (fun w => mul64_any x y (by omega) (by omega) w)
  have hS : smallB x y = decide (x * y ≤ 1000000000000000) := by
    unfold smallB; rw [mulNN]
    exact decide_eq_decide.2 (by omega)
  by_cases h0 : x * y / 18446744073709551616 = 0
  · have HT : Hid (smallB x y = decide (x * y % 18446744073709551616 ≤ 1000000000000000)) := (by rw [hS, Nat.mod_eq_of_lt (by omega)] : smallB x y = _)
    obtain ⟨p, hp⟩ : ∃ p, p = x * y % 18446744073709551616 := ⟨_, rfl⟩
    rw [h0] at HM
    rw [← hp] at HM HT
    have dp : decide ((p : Int) ≤ 1000000000000000) = decide (p ≤ 1000000000000000) := decide_eq_decide.2 (by omega)
    clear h0 hS hp
    go_enter Try.func56, Try.ntmps56
    go_wp2_with (go_at_call 89; refine (HM.out _).mono ?_; rintro _ _ ⟨rfl, rfl⟩)
    go_ret
    exact ⟨ret_bool (by rw [HT.out]), rfl⟩
  · have HT : Hid (smallB x y = false) := (by rw [hS]; simp only [decide_eq_false_iff_not]; omega : smallB x y = _)
    obtain ⟨p, hp⟩ : ∃ p, p = x * y % 18446744073709551616 := ⟨_, rfl⟩
    obtain ⟨q, hq⟩ : ∃ q, q = x * y / 18446744073709551616 := ⟨_, rfl⟩
    have hb0 : ((q : Int) == 0) = false := by rw [hq]; simp only [beq_eq_false_iff_ne, ne_eq]; omega
    rw [← hp, ← hq] at HM
    clear h0 hS hp hq
    go_enter Try.func56, Try.ntmps56
    go_wp2_with (go_at_call 89; refine (HM.out _).mono ?_; rintro _ _ ⟨rfl, rfl⟩)
    go_ret
    exact ⟨ret_bool (by rw [HT.out]), rfl⟩
end Go.Proofs.Ytmfbiohdmhbkoaa

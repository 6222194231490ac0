/- Plain: products and sums of chances. -/
import Derived.Test.YtmfbiohdmhbkoaaPt
import Derived.Test.YtmfbiohdmhbkoaaPn
namespace Go.Proofs.Ytmfbiohdmhbkoaa

/-- the numerator of a product is no more than its denominator -/
theorem both_bd {a b : Ch} (ha : OkC a) (hb : OkC b) : 0 ≤ ratN a.n b.d * ratN b.n a.d ∧ ratN a.n b.d * ratN b.n a.d ≤ ratD a.n b.d * ratD b.n a.d ∧ 1 ≤ ratD a.n b.d ∧ 1 ≤ ratD b.n a.d ∧ ratD a.n b.d ≤ b.d ∧ ratD b.n a.d ≤ a.d ∧ 0 ≤ ratN a.n b.d ∧ 0 ≤ ratN b.n a.d ∧ ratN a.n b.d ≤ a.n ∧ ratN b.n a.d ≤ b.n := by
  have a1 := ha.d1; have a3 := ha.n0; have a4 := ha.n1
  have b1 := hb.d1; have b3 := hb.n0; have b4 := hb.n1
  have g0 : 0 < gI a.n b.d := gI_pos (.inr (by omega))
  have h0 : 0 < gI b.n a.d := gI_pos (.inr (by omega))
  have e1 : ratN a.n b.d * gI a.n b.d = a.n := Int.ediv_mul_cancel (gI_dvd_left a3)
  have e2 : ratD a.n b.d * gI a.n b.d = b.d := Int.ediv_mul_cancel (gI_dvd_right (by omega))
  have e3 : ratN b.n a.d * gI b.n a.d = b.n := Int.ediv_mul_cancel (gI_dvd_left b3)
  have e4 : ratD b.n a.d * gI b.n a.d = a.d := Int.ediv_mul_cancel (gI_dvd_right (by omega))
  have x0 : 0 ≤ ratN a.n b.d := Int.ediv_nonneg a3 (by omega)
  have y0 : 0 ≤ ratN b.n a.d := Int.ediv_nonneg b3 (by omega)
  have x1 : 1 ≤ ratD a.n b.d := Int.le_ediv_of_mul_le g0 (by have := gI_le_right a.n (show 0 < b.d by omega); omega)
  have y1 : 1 ≤ ratD b.n a.d := Int.le_ediv_of_mul_le h0 (by have := gI_le_right b.n (show 0 < a.d by omega); omega)
  have k : ratN a.n b.d * ratN b.n a.d ≤ ratD a.n b.d * ratD b.n a.d := by
    have h1 : ratN a.n b.d * ratN b.n a.d * (gI a.n b.d * gI b.n a.d) ≤ ratD a.n b.d * ratD b.n a.d * (gI a.n b.d * gI b.n a.d) := by
      have e5 : ratN a.n b.d * ratN b.n a.d * (gI a.n b.d * gI b.n a.d) = a.n * b.n := by
        rw [← e1, ← e3]; rw [e1, e3]
        have : ratN a.n b.d * ratN b.n a.d * (gI a.n b.d * gI b.n a.d) = ratN a.n b.d * gI a.n b.d * (ratN b.n a.d * gI b.n a.d) := by ac_rfl
        rw [this, e1, e3]
      have e6 : ratD a.n b.d * ratD b.n a.d * (gI a.n b.d * gI b.n a.d) = b.d * a.d := by
        have : ratD a.n b.d * ratD b.n a.d * (gI a.n b.d * gI b.n a.d) = ratD a.n b.d * gI a.n b.d * (ratD b.n a.d * gI b.n a.d) := by ac_rfl
        rw [this, e2, e4]
      rw [e5, e6, Int.mul_comm b.d]
      exact Int.mul_le_mul a4 b4 b3 (by omega)
    exact Int.le_of_mul_le_mul_right h1 (Int.mul_pos g0 h0)
  exact ⟨Int.mul_nonneg x0 y0, k, x1, y1, Int.ediv_le_self _ (by omega), Int.ediv_le_self _ (by omega), x0, y0, Int.ediv_le_self _ a3, Int.ediv_le_self _ b3⟩
theorem okC_not {b : Ch} (hb : OkC b) : OkC ⟨b.d - b.n, b.d⟩ := by
  have h1 := hb.d1; have h2 := hb.d2; have h3 := hb.n0; have h4 := hb.n1; have h5 := hb.g
  refine ⟨h1, h2, by show 0 ≤ b.d - b.n; omega, by show b.d - b.n ≤ b.d; omega, ?_⟩
  show gI (b.d - b.n) b.d = 1
  have d1 : gI (b.d - b.n) b.d ∣ b.d := gI_dvd_right (by omega)
  have d2 : gI (b.d - b.n) b.d ∣ b.d - b.n := gI_dvd_left (by omega)
  have d3 : gI (b.d - b.n) b.d ∣ b.n := by
    have := Int.dvd_sub d1 d2
    rwa [show b.d - (b.d - b.n) = b.n by omega] at this
  have d4 := dvd_gI h3 (by omega) d3 d1
  rw [h5] at d4
  have p := gI_pos (a := b.d - b.n) (b := b.d) (.inr (by omega))
  have := Int.le_of_dvd (by omega) d4
  omega
/-- the numerator of a sum: the quotients and what they leave -/
theorem either_num {a b : Ch} (ha : OkC a) (hb : OkC b) {den N : Int} (h : N * (a.d * b.d) = den * (a.n * b.d + b.n * a.d)) :
    a.n * den / a.d + b.n * den / b.d + (if 0 < a.n * den % a.d ∨ 0 < b.n * den % b.d then 1 else 0) = N := by
  have a1 := ha.d1; have b1 := hb.d1
  have e1 := Int.mul_ediv_add_emod (a.n * den) a.d
  have e2 := Int.mul_ediv_add_emod (b.n * den) b.d
  have r0 := Int.emod_nonneg (a.n * den) (show a.d ≠ 0 by omega)
  have r1 := Int.emod_lt_of_pos (a.n * den) (show 0 < a.d by omega)
  have s0 := Int.emod_nonneg (b.n * den) (show b.d ≠ 0 by omega)
  have s1 := Int.emod_lt_of_pos (b.n * den) (show 0 < b.d by omega)
  obtain ⟨A, hA⟩ : ∃ A, A = a.n * den / a.d := ⟨_, rfl⟩
  obtain ⟨B, hB⟩ : ∃ A, A = b.n * den / b.d := ⟨_, rfl⟩
  obtain ⟨R, hR⟩ : ∃ A, A = a.n * den % a.d := ⟨_, rfl⟩
  obtain ⟨S, hS⟩ : ∃ A, A = b.n * den % b.d := ⟨_, rfl⟩
  rw [← hA, ← hR] at e1
  rw [← hB, ← hS] at e2
  rw [← hR] at r0 r1
  rw [← hS] at s0 s1
  rw [← hA, ← hB, ← hR, ← hS]
  have key : (N - A - B) * (a.d * b.d) = R * b.d + S * a.d := by
    have k1 : den * (a.n * b.d + b.n * a.d) = a.n * den * b.d + b.n * den * a.d := by rw [Int.mul_add]; congr 1 <;> ac_rfl
    rw [k1, ← e1, ← e2] at h
    have k2 : (a.d * A + R) * b.d = A * (a.d * b.d) + R * b.d := by rw [Int.add_mul]; congr 1; ac_rfl
    have k3 : (b.d * B + S) * a.d = B * (a.d * b.d) + S * a.d := by rw [Int.add_mul]; congr 1; ac_rfl
    rw [k2, k3] at h
    rw [Int.sub_mul, Int.sub_mul]; omega
  have up : R * b.d + S * a.d < 2 * (a.d * b.d) := by
    have u1 : (R + 1) * b.d ≤ a.d * b.d := Int.mul_le_mul_of_nonneg_right (by omega) (by omega)
    have u2 : (S + 1) * a.d ≤ b.d * a.d := Int.mul_le_mul_of_nonneg_right (by omega) (by omega)
    rw [Int.add_mul, Int.one_mul] at u1 u2
    rw [Int.mul_comm b.d a.d] at u2
    omega
  have lo0 : 0 ≤ R * b.d := Int.mul_nonneg r0 (by omega)
  have lo1 : 0 ≤ S * a.d := Int.mul_nonneg s0 (by omega)
  have pp : 0 < a.d * b.d := Int.mul_pos (by omega) (by omega)
  obtain ⟨K, hK⟩ : ∃ K, K = N - A - B := ⟨_, rfl⟩
  rw [← hK] at key
  have hk2 : K < 2 := by
    rcases Int.lt_or_le K 2 with h | h
    · exact h
    · have := Int.mul_le_mul_of_nonneg_right h (show 0 ≤ a.d * b.d by omega); omega
  have hk0 : 0 ≤ K := by
    rcases Int.lt_or_le K 0 with h | h
    · have := Int.mul_neg_of_neg_of_pos h pp; omega
    · exact h
  by_cases hz : 0 < R ∨ 0 < S
  · rw [if_pos hz]
    have : 0 < R * b.d + S * a.d := by
      rcases hz with h | h
      · have := Int.mul_pos h (show 0 < b.d by omega); omega
      · have := Int.mul_pos h (show 0 < a.d by omega); omega
    have : K ≠ 0 := fun e => by rw [e, Int.zero_mul] at key; omega
    omega
  · rw [if_neg hz]
    have hR0 : R = 0 := by omega
    have hS0 : S = 0 := by omega
    rw [hR0, hS0, Int.zero_mul, Int.zero_mul, Int.add_zero] at key
    have : K = 0 := by
      rcases Int.mul_eq_zero.1 key with h | h
      · exact h
      · omega
    omega
theorem eH_dvd {a b : Ch} (ha : OkC a) (hb : OkC b) : eH a b ∣ eN a b ∧ eH a b ∣ eG a b := by
  have e := ef_of ha hb
  have g1 := e.g1
  have m0 := Int.emod_nonneg (eN a b) (show eG a b ≠ 0 by omega)
  have d1 : eH a b ∣ eN a b % eG a b := gI_dvd_left m0
  have d2 : eH a b ∣ eG a b := gI_dvd_right (by omega)
  refine ⟨?_, d2⟩
  have d3 := Int.dvd_add (Int.dvd_trans d2 (Int.dvd_mul_right (eG a b) (eN a b / eG a b))) d1
  rwa [Int.mul_ediv_add_emod] at d3
/-- a sum of chances, as the reference reckons it -/
theorem either_fin {a b : Ch} (ha : OkC a) (hb : OkC b) : a.n * eD a b / a.d + b.n * eD a b / b.d + (if 0 < a.n * eD a b % a.d ∨ 0 < b.n * eD a b % b.d then 1 else 0) = eN a b / eH a b := by
  have e := ef_of ha hb
  obtain ⟨d1, d2⟩ := eH_dvd ha hb
  have h1 := e.h1
  refine either_num ha hb ?_
  have k1 : eN a b * eG a b = a.n * b.d + b.n * a.d := by
    have h2 : eN a b = a.n * eQ a b + b.n * eP a b := rfl
    rw [h2, ← e.pa, ← e.qb, Int.add_mul]; congr 1 <;> ac_rfl
  have k2 : eN a b / eH a b * eG a b = eN a b * (eG a b / eH a b) := by
    obtain ⟨x, hx⟩ := d1
    obtain ⟨y, hy⟩ := d2
    rw [hx, hy, Int.mul_ediv_cancel_left _ (by omega), Int.mul_ediv_cancel_left _ (by omega)]
    ac_rfl
  have k3 : a.d * b.d = eP a b * eG a b * (eQ a b * eG a b) := by rw [e.pa, e.qb]
  rw [← k1, k3]
  show eN a b / eH a b * (eP a b * eG a b * (eQ a b * eG a b)) = eP a b * eQ a b * (eG a b / eH a b) * (eN a b * eG a b)
  have k4 : eN a b / eH a b * (eP a b * eG a b * (eQ a b * eG a b)) = eN a b / eH a b * eG a b * (eP a b * eQ a b * eG a b) := by ac_rfl
  rw [k4, k2]; ac_rfl
theorem rests_mod {x y g : Int} : (x % g + y % g) % g = (x + y) % g := (Int.add_emod x y g).symm
end Go.Proofs.Ytmfbiohdmhbkoaa

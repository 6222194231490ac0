/- Plain: Either, Both and Of by values. -/
import Derived.Test.YtmfbiohdmhbkoaaQa
namespace Go.Proofs.Ytmfbiohdmhbkoaa

theorem either_val {a b : Ch} (ha : OkC a) (hb : OkC b) {N D : Int} (h : Co N D) (hD : 0 < D) (hDl : D ≤ 1000000000000000) (hND : N ≤ D) (e : N * (a.d * b.d) = D * (a.n * b.d + b.n * a.d)) : eitherR a b = (N, D, 0) := by
  have ad := ha.d1; have bd := hb.d1
  have pp : 0 < a.d * b.d := Int.mul_pos (by omega) (by omega)
  have okp : okP a b = true := okP_iff.2 ⟨ha, hb⟩
  have hle : ¬ (b.d - b.n) * a.d < a.n * b.d := by
    have h1 : N * (a.d * b.d) ≤ D * (a.d * b.d) := Int.mul_le_mul_of_nonneg_right hND (by omega)
    rw [e] at h1
    have h2 := Int.le_of_mul_le_mul_left h1 hD
    rw [Int.sub_mul, Int.mul_comm b.d a.d]; omega
  obtain ⟨c, e2⟩ := either_low ha hb
  have ef := ef_of ha hb
  have pq := Int.mul_pos (show 0 < eP a b by have := ef.p1; omega) (show 0 < eQ a b by have := ef.q1; omega)
  have hd : eP a b * eQ a b ≤ eD a b := by
    have := Int.mul_le_mul_of_nonneg_left ef.gh1 (show 0 ≤ eP a b * eQ a b by omega)
    rw [Int.mul_one] at this; exact this
  obtain ⟨u1, u2⟩ := co_unique c h (by omega) hD (by
    apply Int.eq_of_mul_eq_mul_right (a := a.d * b.d) (by omega)
    calc eN a b / eH a b * D * (a.d * b.d) = D * (eN a b / eH a b * (a.d * b.d)) := by ac_rfl
      _ = D * (eD a b * (a.n * b.d + b.n * a.d)) := by rw [e2]
      _ = D * (a.n * b.d + b.n * a.d) * eD a b := by ac_rfl
      _ = N * (a.d * b.d) * eD a b := by rw [e]
      _ = N * eD a b * (a.d * b.d) := by ac_rfl)
  unfold eitherR
  rw [if_pos okp, if_neg hle, if_pos ⟨by omega, by omega⟩, u1, u2]
/-- what Either returns without an error -/
theorem either_ok {a b : Ch} (h : (eitherR a b).2.2 = 0) : OkC a ∧ OkC b ∧ OkC ⟨(eitherR a b).1, (eitherR a b).2.1⟩ ∧ (eitherR a b).1 * (a.d * b.d) = (eitherR a b).2.1 * (a.n * b.d + b.n * a.d) := by
  unfold eitherR at h ⊢
  by_cases okp : okP a b = true
  · rw [if_pos okp] at h ⊢
    obtain ⟨ha, hb⟩ := okP_iff.1 okp
    by_cases hle : (b.d - b.n) * a.d < a.n * b.d
    · rw [if_pos hle] at h; cases h
    · rw [if_neg hle] at h ⊢
      by_cases hs : eP a b * eQ a b ≤ 1000000000000000 ∧ eD a b ≤ 1000000000000000
      · rw [if_pos hs] at h ⊢
        obtain ⟨c, e2⟩ := either_low ha hb
        have ad := ha.d1; have bd := hb.d1
        have ef := ef_of ha hb
        have pp : 0 < a.d * b.d := Int.mul_pos (by omega) (by omega)
        have pq := Int.mul_pos (show 0 < eP a b by have := ef.p1; omega) (show 0 < eQ a b by have := ef.q1; omega)
        have hd : eP a b * eQ a b ≤ eD a b := by
          have := Int.mul_le_mul_of_nonneg_left ef.gh1 (show 0 ≤ eP a b * eQ a b by omega)
          rw [Int.mul_one] at this; exact this
        have hd1 : 1 ≤ eD a b := by omega
        refine ⟨ha, hb, ok_mk c hd1 hs.2 ?_, e2⟩
        apply Int.le_of_mul_le_mul_right (a := a.d * b.d) _ pp
        rw [e2]
        refine Int.mul_le_mul_of_nonneg_left ?_ (by omega)
        rw [Int.sub_mul, Int.mul_comm b.d a.d] at hle; omega
      · rw [if_neg hs] at h; cases h
  · rw [if_neg okp] at h; cases h
theorem both_low {a b : Ch} (ha : OkC a) (hb : OkC b) : Co (ratN a.n b.d * ratN b.n a.d) (ratD a.n b.d * ratD b.n a.d) ∧ ratN a.n b.d * ratN b.n a.d * (a.d * b.d) = ratD a.n b.d * ratD b.n a.d * (a.n * b.n) := by
  obtain ⟨x0, xy, xd1, yd1, xd2, yd2, xn0, yn0, xn1, yn1⟩ := both_bd ha hb
  have a3 := ha.n0; have b3 := hb.n0; have a1 := ha.d1; have b1 := hb.d1
  have g0 : 0 < gI a.n b.d := gI_pos (.inr (by omega))
  have h0 : 0 < gI b.n a.d := gI_pos (.inr (by omega))
  have c1 : Co (ratN a.n b.d) (ratD a.n b.d) := co_div a3 (by omega) g0
  have c2 : Co (ratN b.n a.d) (ratD b.n a.d) := co_div b3 (by omega) h0
  have dn1 : ratN a.n b.d ∣ a.n := ⟨gI a.n b.d, (Int.ediv_mul_cancel (gI_dvd_left a3)).symm⟩
  have dd1 : ratD a.n b.d ∣ b.d := ⟨gI a.n b.d, (Int.ediv_mul_cancel (gI_dvd_right (by omega))).symm⟩
  have dn2 : ratN b.n a.d ∣ b.n := ⟨gI b.n a.d, (Int.ediv_mul_cancel (gI_dvd_left b3)).symm⟩
  have dd2 : ratD b.n a.d ∣ a.d := ⟨gI b.n a.d, (Int.ediv_mul_cancel (gI_dvd_right (by omega))).symm⟩
  have c3 : Co (ratN a.n b.d) (ratD b.n a.d) := ((ha.co.of_dvd xn0 dn1).symm.of_dvd (by omega) dd2).symm
  have c4 : Co (ratN b.n a.d) (ratD a.n b.d) := ((hb.co.of_dvd yn0 dn2).symm.of_dvd (by omega) dd1).symm
  refine ⟨(((c1.mul c4).symm.mul (c3.mul c2).symm).symm), ?_⟩
  have e1 := rat_cross a3 (show 0 < b.d by omega)
  have e2 := rat_cross b3 (show 0 < a.d by omega)
  calc ratN a.n b.d * ratN b.n a.d * (a.d * b.d) = (ratN a.n b.d * b.d) * (ratN b.n a.d * a.d) := by ac_rfl
    _ = (a.n * ratD a.n b.d) * (b.n * ratD b.n a.d) := by rw [e1, e2]
    _ = _ := by ac_rfl
theorem both_val {a b : Ch} (ha : OkC a) (hb : OkC b) {N D : Int} (h : Co N D) (hD : 0 < D) (hDl : D ≤ 1000000000000000) (e : N * (a.d * b.d) = D * (a.n * b.n)) : bothR a b = (N, D, 0) := by
  have ad := ha.d1; have bd := hb.d1
  have pp : 0 < a.d * b.d := Int.mul_pos (by omega) (by omega)
  obtain ⟨x0, xy, xd1, yd1, xd2, yd2, xn0, yn0, xn1, yn1⟩ := both_bd ha hb
  obtain ⟨c, e2⟩ := both_low ha hb
  have okp : okP a b = true := okP_iff.2 ⟨ha, hb⟩
  have dp := Int.mul_pos (show 0 < ratD a.n b.d by omega) (show 0 < ratD b.n a.d by omega)
  obtain ⟨u1, u2⟩ := co_unique c h dp hD (by
    apply Int.eq_of_mul_eq_mul_right (a := a.d * b.d) (by omega)
    calc ratN a.n b.d * ratN b.n a.d * D * (a.d * b.d) = D * (ratN a.n b.d * ratN b.n a.d * (a.d * b.d)) := by ac_rfl
      _ = D * (ratD a.n b.d * ratD b.n a.d * (a.n * b.n)) := by rw [e2]
      _ = D * (a.n * b.n) * (ratD a.n b.d * ratD b.n a.d) := by ac_rfl
      _ = N * (a.d * b.d) * (ratD a.n b.d * ratD b.n a.d) := by rw [e]
      _ = N * (ratD a.n b.d * ratD b.n a.d) * (a.d * b.d) := by ac_rfl)
  unfold bothR
  rw [if_pos okp, if_pos (by omega), u1, u2]
theorem both_ok {a b : Ch} (h : (bothR a b).2.2 = 0) : OkC a ∧ OkC b ∧ OkC ⟨(bothR a b).1, (bothR a b).2.1⟩ ∧ (bothR a b).1 * (a.d * b.d) = (bothR a b).2.1 * (a.n * b.n) := by
  unfold bothR at h ⊢
  by_cases okp : okP a b = true
  · rw [if_pos okp] at h ⊢
    obtain ⟨ha, hb⟩ := okP_iff.1 okp
    by_cases hs : ratD a.n b.d * ratD b.n a.d ≤ 1000000000000000
    · rw [if_pos hs] at h ⊢
      obtain ⟨x0, xy, xd1, yd1, xd2, yd2, xn0, yn0, xn1, yn1⟩ := both_bd ha hb
      obtain ⟨c, e2⟩ := both_low ha hb
      have dp := Int.mul_pos (show 0 < ratD a.n b.d by omega) (show 0 < ratD b.n a.d by omega)
      have hd1 : 1 ≤ ratD a.n b.d * ratD b.n a.d := by omega
      exact ⟨ha, hb, ok_mk c hd1 hs xy, e2⟩
    · rw [if_neg hs] at h; cases h
  · rw [if_neg okp] at h; cases h
/-- Of without an error -/
theorem of_val {w o : List Int} (ok : OkW w) (ha : amongB o w.length = true) : ofR w o = (ratN (selS w o) (sumL w), ratD (selS w o) (sumL w), 0) ∧ OkC ⟨ratN (selS w o) (sumL w), ratD (selS w o) (sumL w)⟩ ∧ ratN (selS w o) (sumL w) * sumL w = selS w o * ratD (selS w o) (sumL w) ∧ 0 ≤ selS w o ∧ selS w o ≤ sumL w := by
  have hp := ok.pos; have hl := ok.le
  have h0 := selS_nn (o := o) ok.nn
  have h1 := keepL_le ok ha
  rw [keepL_sel ha] at h1
  refine ⟨?_, rat_ok h0 (by omega) h1 hl, rat_cross h0 (by omega), h0, h1⟩
  unfold ofR
  rw [if_pos (errW_zero.2 ok), if_pos ha, keepL_sel ha]
end Go.Proofs.Ytmfbiohdmhbkoaa

/- almanac: years; plain. -/
import Derived.Test.YtfbnllmmoaialaaZ25RfM
namespace Go.Proofs.Ytfbnllmmoaialaa

/-- the first day of a year -/
theorem year_first {r : Sol} (ok : SolOk r) {y : Int} (y0 : 0 ≤ y) (y1 : y ≤ 2000) : dayR r ⟨y, 1, 1⟩ = (begI r y, 0) ∧ 0 ≤ begI r y ∧ begI r y ≤ 732000 := by
  obtain ⟨n, rfl⟩ := Int.eq_ofNat_of_zero_le y0
  have hb := begI_bd ok n
  refine ⟨?_, by omega, by omega⟩
  unfold dayR
  have e1 : sumL ((monL (extraN r n)).take 0) = 0 := rfl
  have b1 : inB (n : Int) 0 4000 = true := inB_iff.2 (by omega)
  have b2 : inB 1 1 12 = true := rfl
  have b3 : inB 1 1 ((monL (extraN r n)).getD 0 0) = true := rfl
  simp only [solB_iff.2 ok, b1, b2, show ((1 : Int) - 1).toNat = 0 from rfl, b3, e1, if_true, show begI r n + 1 - 1 + 0 = begI r n by omega, inB_iff.2 (show (0 : Int) ≤ begI r n ∧ begI r n ≤ 1000000 by omega)]
/-- a year is long -/
def lwLong (r : Sol) (y : Int) : Bool := decide (0 < r.e) && (y % r.e == 0) && (decide (r.b ≤ 0) || (y % r.b != 0) || (decide (0 < r.u) && (y % r.u == 0)))
theorem lwLong_eq {r : Sol} (ok : SolOk r) {y : Int} : lwLong r y = longB r y := by
  obtain ⟨⟨e0, -⟩, ⟨b0, -⟩, u0, -⟩ := ok
  unfold lwLong longB divB
  rw [Bool.eq_iff_iff]
  simp only [Bool.and_eq_true, Bool.or_eq_true, Bool.not_eq_true', decide_eq_true_eq, decide_eq_false_iff_not, beq_iff_eq, bne_iff_ne]
  constructor
  · rintro ⟨⟨h1, h2⟩, h3⟩
    refine ⟨⟨by omega, h2⟩, ?_⟩
    rcases h3 with (h3 | h3) | ⟨h3, h4⟩
    · exact .inl fun ⟨h, _⟩ => by omega
    · exact .inl fun ⟨_, h⟩ => h3 h
    · exact .inr ⟨by omega, h4⟩
  · rintro ⟨⟨h1, h2⟩, h3⟩
    refine ⟨⟨by omega, h2⟩, ?_⟩
    rcases h3 with h3 | ⟨h3, h4⟩
    · by_cases hb : r.b ≤ 0
      · exact .inl (.inl hb)
      · exact .inl (.inr fun h => h3 ⟨by omega, h⟩)
    · exact .inr ⟨by omega, h4⟩
theorem feb29 {r : Sol} (ok : SolOk r) {y : Int} (y0 : 0 ≤ y) (y1 : y ≤ 2000) : dayR r ⟨y, 2, 29⟩ = if longB r y then (begI r y + 59, 0) else (0, 7) := by
  obtain ⟨-, h0, h1⟩ := year_first ok y0 y1
  have hx := extraN_eq ok y0
  unfold dayR
  have b1 : inB y 0 4000 = true := inB_iff.2 (by omega)
  have b2 : inB 2 1 12 = true := rfl
  have e1 : sumL ((monL (extraN r y)).take 1) = 31 := rfl
  have e2 : (monL (extraN r y)).getD 1 0 = 28 + extraN r y := rfl
  simp only [solB_iff.2 ok, b1, b2, show ((2 : Int) - 1).toNat = 1 from rfl, e1, e2, if_true]
  rw [hx]
  split
  · rw [if_pos (inB_iff.2 (by omega)), if_pos (inB_iff.2 (by omega))]
    simp only [Prod.mk.injEq, and_true]; omega
  · rw [if_neg (by rw [Bool.not_eq_true]; exact inB_not.2 (by omega))]
/-! by the moon -/
theorem BI_le {r : Lun} (ok : LunOk r) {n : Int} (h : 0 ≤ n) : BI r n ≤ 31 * n + 1 := by
  obtain ⟨p, d, f, y, m, s, l⟩ := ok
  unfold BI atW
  rw [← Int.lt_add_one_iff, Int.ediv_lt_iff_lt_mul (by omega)]
  have := Int.mul_le_mul_of_nonneg_left d.2 h
  have e : n * (31 * r.p) = 31 * n * r.p := by rw [← Int.mul_assoc, Int.mul_comm n 31]
  have e2 : n * r.d = r.d * n := Int.mul_comm _ _
  have e3 : (31 * n + 1 + 1) * r.p = 31 * n * r.p + 2 * r.p := by rw [show 31 * n + 1 + 1 = 31 * n + 2 by omega, Int.add_mul]
  omega
theorem FI_le {r : Lun} (ok : LunOk r) {n : Int} (h : 0 ≤ n) : FI r n ≤ 13 * n + 1 := by
  obtain ⟨p, d, f, y, m, s, l⟩ := ok
  unfold FI atW
  rw [← Int.lt_add_one_iff, Int.ediv_lt_iff_lt_mul (by omega)]
  have := Int.mul_le_mul_of_nonneg_left m.2 h
  have e : n * (13 * r.y) = 13 * n * r.y := by rw [← Int.mul_assoc, Int.mul_comm n 13]
  have e2 : n * r.m = r.m * n := Int.mul_comm _ _
  have e3 : (13 * n + 1 + 1) * r.y = 13 * n * r.y + 2 * r.y := by rw [show 13 * n + 1 + 1 = 13 * n + 2 by omega, Int.add_mul]
  omega
/-- how many months of the year begin before month m: the repeated one counts -/
def befM (r : Lun) (y m : Int) : Int := m - 1 + if longM r y && decide (r.l < m) then 1 else 0
/-- the first days of months -/
theorem month_first {r : Lun} (ok : LunOk r) {y m : Int} (y0 : 0 ≤ y) (y1 : y ≤ 2000) (m0 : 1 ≤ m) (m1 : m ≤ 12) : ldayR r ⟨y, m, 1, false⟩ = (BI r (FI r y + befM r y m), 0) ∧ 0 ≤ BI r (FI r y + befM r y m) ∧ BI r (FI r y + befM r y m) ≤ 1000000 := by
  have hf := FI_ge ok y0
  have hf2 := FI_le ok y0
  have hb : 0 ≤ befM r y m ∧ befM r y m ≤ 13 := by unfold befM; split <;> omega
  have hB := BI_ge ok (show 0 ≤ FI r y + befM r y m by omega)
  have hB2 := BI_le ok (show 0 ≤ FI r y + befM r y m by omega)
  have hs := BI_step ok (FI r y + befM r y m)
  have hN : monN r ⟨y, m, 1, false⟩ = FI r y + befM r y m := by
    unfold monN befM
    simp only [Bool.or_false]
    split <;> omega
  refine ⟨?_, by omega, by omega⟩
  have b1 : inB y 0 4000 = true := inB_iff.2 (by omega)
  have b2 : badL r ⟨y, m, 1, false⟩ = false := by
    unfold badL
    rw [hN]
    simp only [inB_iff.2 (show (1 : Int) ≤ m ∧ m ≤ 12 by omega), inB_iff.2 (show (1 : Int) ≤ 1 ∧ 1 ≤ BI r (FI r y + befM r y m + 1) - BI r (FI r y + befM r y m) by omega)]
    rfl
  unfold ldayR
  simp only [lunB_iff.2 ok, b1, b2, hN, if_true, Bool.false_eq_true, if_false, show BI r (FI r y + befM r y m) + 1 - 1 = BI r (FI r y + befM r y m) by omega, inB_iff.2 (show (0 : Int) ≤ BI r (FI r y + befM r y m) ∧ BI r (FI r y + befM r y m) ≤ 1000000 by omega)]
/-- of the repeated month -/
theorem month_leap {r : Lun} (ok : LunOk r) {y m : Int} (y0 : 0 ≤ y) (y1 : y ≤ 2000) (m0 : 1 ≤ m) (m1 : m ≤ 12) : ldayR r ⟨y, m, 1, true⟩ = if longM r y && (m == r.l) then (BI r (FI r y + m), 0) else (0, 7) := by
  have hf := FI_ge ok y0
  have hf2 := FI_le ok y0
  have b1 : inB y 0 4000 = true := inB_iff.2 (by omega)
  have hB := BI_ge ok (show 0 ≤ FI r y + m by omega)
  have hB2 := BI_le ok (show 0 ≤ FI r y + m by omega)
  have hs := BI_step ok (FI r y + m)
  cases hl : longM r y with
  | false =>
    have b2 : badL r ⟨y, m, 1, true⟩ = true := by unfold badL; simp [hl]
    unfold ldayR
    simp only [lunB_iff.2 ok, b1, b2, if_true]
    rfl
  | true =>
    by_cases he : m = r.l
    · have hN : monN r ⟨y, m, 1, true⟩ = FI r y + m := by unfold monN; simp [hl]
      have b2 : badL r ⟨y, m, 1, true⟩ = false := by
        unfold badL
        rw [hN]
        simp only [hl, inB_iff.2 (show (1 : Int) ≤ m ∧ m ≤ 12 by omega), inB_iff.2 (show (1 : Int) ≤ 1 ∧ 1 ≤ BI r (FI r y + m + 1) - BI r (FI r y + m) by omega)]
        simp [he]
      unfold ldayR
      simp only [lunB_iff.2 ok, b1, b2, hN, if_true, Bool.false_eq_true, if_false, show BI r (FI r y + m) + 1 - 1 = BI r (FI r y + m) by omega, inB_iff.2 (show (0 : Int) ≤ BI r (FI r y + m) ∧ BI r (FI r y + m) ≤ 1000000 by omega)]
      simp [he]
    · have b2 : badL r ⟨y, m, 1, true⟩ = true := by unfold badL; simp [hl, he]
      unfold ldayR
      simp only [lunB_iff.2 ok, b1, b2, if_true]
      simp [he]
theorem befM_one {r : Lun} (ok : LunOk r) (y : Int) : befM r y 1 = 0 := by
  have := ok.l
  unfold befM
  rw [if_neg (by simp; omega)]
  rfl
theorem befM_succ {r : Lun} {y m : Int} : befM r y (m + 1) = befM r y m + 1 + if longM r y && (m == r.l) then 1 else 0 := by
  unfold befM
  cases hl : longM r y with
  | false => simp
  | true =>
    simp only [Bool.true_and, decide_eq_true_eq, beq_iff_eq]
    split <;> split <;> split <;> omega
theorem befM_all {r : Lun} (ok : LunOk r) (y : Int) : befM r y 13 = FI r (y + 1) - FI r y := by
  have h := FI_step ok y
  have := ok.l
  unfold befM
  cases hl : longM r y with
  | false =>
    have hne : FI r (y + 1) - FI r y ≠ 13 := fun h => by rw [longM_iff.2 h] at hl; cases hl
    simp; omega
  | true =>
    have := longM_iff.1 hl
    rw [if_pos (by simp; omega)]; omega
/-- the first day of the month that began last, behind c months of a year -/
def lastC (r : Lun) (y c : Int) : Int := BI r (FI r y + if c = 0 then 0 else c - 1)
theorem BI_mono {r : Lun} (ok : LunOk r) {a : Int} : ∀ n : Nat, BI r a ≤ BI r (a + n)
  | 0 => by simp
  | n + 1 => by
    have h1 := BI_mono ok (a := a) n
    have h2 := BI_step ok (a + n)
    rw [show a + ((n + 1 : Nat) : Int) = a + n + 1 by omega]; omega
theorem last_chk {r : Lun} (ok : LunOk r) {y c : Int} (c0 : 0 ≤ c) (c1 : c + 1 ≤ FI r (y + 1) - FI r y) : lastC r y c ≤ BI r (FI r y + c) ∧ BI r (FI r y + c) ≤ BI r (FI r (y + 1)) ∧ (0 < c → 27 ≤ BI r (FI r y + c) - lastC r y c ∧ BI r (FI r y + c) - lastC r y c ≤ 31) ∧ lastC r y (c + 1) = BI r (FI r y + c) := by
  have h2 : BI r (FI r y + c) ≤ BI r (FI r (y + 1)) := by
    have := BI_mono ok (a := FI r y + c) (FI r (y + 1) - FI r y - c).toNat
    rwa [show FI r y + c + ((FI r (y + 1) - FI r y - c).toNat : Int) = FI r (y + 1) by omega] at this
  have h4 : lastC r y (c + 1) = BI r (FI r y + c) := by unfold lastC; rw [if_neg (by omega)]; congr 1; omega
  by_cases h : c = 0
  · subst h
    exact ⟨by unfold lastC; rw [if_pos rfl]; exact Int.le_refl _, h2, fun h => by omega, h4⟩
  · have hs := BI_step ok (FI r y + (c - 1))
    rw [show FI r y + (c - 1) + 1 = FI r y + c by omega] at hs
    have hl : lastC r y c = BI r (FI r y + (c - 1)) := by unfold lastC; rw [if_neg h]
    rw [hl]
    exact ⟨by omega, h2, fun _ => by omega, h4⟩
theorem last_end {r : Lun} (ok : LunOk r) {y : Int} : 27 ≤ BI r (FI r (y + 1)) - lastC r y (FI r (y + 1) - FI r y) ∧ BI r (FI r (y + 1)) - lastC r y (FI r (y + 1) - FI r y) ≤ 31 := by
  have h := FI_step ok y
  have hs := BI_step ok (FI r (y + 1) - 1)
  rw [show FI r (y + 1) - 1 + 1 = FI r (y + 1) by omega] at hs
  have hl : lastC r y (FI r (y + 1) - FI r y) = BI r (FI r (y + 1) - 1) := by unfold lastC; rw [if_neg (by omega)]; congr 1; omega
  rw [hl]; omega
end Go.Proofs.Ytfbnllmmoaialaa

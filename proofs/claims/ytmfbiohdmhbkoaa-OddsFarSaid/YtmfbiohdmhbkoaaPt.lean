/- Plain: chances compared, multiplied, added. -/
import Derived.Test.YtmfbiohdmhbkoaaPl
namespace Go.Proofs.Ytmfbiohdmhbkoaa

def cmpI (a b : Int) : Int := if a < b then -1 else if b < a then 1 else 0
/-- a chance -/
structure Ch where
  n : Int
  d : Int
def okC (x : Ch) : Bool := decide (1 ≤ x.d) && decide (x.d ≤ 1000000000000000) && decide (0 ≤ x.n) && decide (x.n ≤ x.d) && decide (gI x.n x.d = 1)
structure OkC (x : Ch) : Prop where
  d1 : 1 ≤ x.d
  d2 : x.d ≤ 1000000000000000
  n0 : 0 ≤ x.n
  n1 : x.n ≤ x.d
  g : gI x.n x.d = 1
theorem okC_iff {x : Ch} : okC x = true ↔ OkC x := by
  simp only [okC, Bool.and_eq_true, decide_eq_true_eq]
  exact ⟨fun ⟨⟨⟨⟨a, b⟩, c⟩, d⟩, e⟩ => ⟨a, b, c, d, e⟩, fun ⟨a, b, c, d, e⟩ => ⟨⟨⟨⟨a, b⟩, c⟩, d⟩, e⟩⟩
def badC (x : Ch) : Bool := !okC x
def okP (a b : Ch) : Bool := okC a && okC b
theorem okP_iff {a b : Ch} : okP a b = true ↔ OkC a ∧ OkC b := by rw [okP, Bool.and_eq_true, okC_iff, okC_iff]
theorem any_one (a : Ch) : (!([a].any badC)) = okC a := by simp [badC]
theorem any_two (a b : Ch) : (!([a, b].any badC)) = okP a b := by simp [badC, okP]
/-- Compare, Both, Not, Either -/
def cmpR (a b : Ch) : Int × Int := if okP a b then (cmpI (a.n * b.d) (b.n * a.d), 0) else (0, 2)
def bothR (a b : Ch) : Int × Int × Int :=
  if okP a b then if ratD a.n b.d * ratD b.n a.d ≤ 1000000000000000 then (ratN a.n b.d * ratN b.n a.d, ratD a.n b.d * ratD b.n a.d, 0) else (0, 0, 10) else (0, 0, 2)
def notR (a : Ch) : Int × Int × Int := if okC a then (a.d - a.n, a.d, 0) else (0, 0, 2)
def eG (a b : Ch) : Int := gI a.d b.d
def eP (a b : Ch) : Int := a.d / eG a b
def eQ (a b : Ch) : Int := b.d / eG a b
def eN (a b : Ch) : Int := a.n * eQ a b + b.n * eP a b
def eH (a b : Ch) : Int := gI (eN a b % eG a b) (eG a b)
def eD (a b : Ch) : Int := eP a b * eQ a b * (eG a b / eH a b)
def eitherR (a b : Ch) : Int × Int × Int :=
  if okP a b then if (b.d - b.n) * a.d < a.n * b.d then (0, 0, 3) else if eP a b * eQ a b ≤ 1000000000000000 ∧ eD a b ≤ 1000000000000000 then (eN a b / eH a b, eD a b, 0) else (0, 0, 10) else (0, 0, 2)
/-- what holds of the numbers in a sum of chances -/
structure EF (a b : Ch) (g p q n h : Int) : Prop where
  g1 : 1 ≤ g
  gl : g ≤ 1000000000000000
  p1 : 1 ≤ p
  pl : p ≤ 1000000000000000
  q1 : 1 ≤ q
  ql : q ≤ 1000000000000000
  pa : p * g = a.d
  qb : q * g = b.d
  n0 : 0 ≤ n
  nd : n = a.n * q + b.n * p
  aq : 0 ≤ a.n * q
  bp : 0 ≤ b.n * p
  nl : n ≤ 2000000000000000000000000000000
  h1 : 1 ≤ h
  hg : h ≤ g
  hd : g / h * h = g
  gh1 : 1 ≤ g / h
  ghl : g / h ≤ 1000000000000000
theorem ef_of {a b : Ch} (ha : OkC a) (hb : OkC b) : EF a b (eG a b) (eP a b) (eQ a b) (eN a b) (eH a b) := by
  have a1 := ha.d1; have a2 := ha.d2; have a3 := ha.n0; have a4 := ha.n1
  have b1 := hb.d1; have b2 := hb.d2; have b3 := hb.n0; have b4 := hb.n1
  have g1 : 0 < eG a b := gI_pos (.inl (by omega))
  have gl : eG a b ≤ a.d := gI_le_left _ (by omega)
  have pa : eP a b * eG a b = a.d := Int.ediv_mul_cancel (gI_dvd_left (by omega))
  have qb : eQ a b * eG a b = b.d := Int.ediv_mul_cancel (gI_dvd_right (by omega))
  have p1 : 1 ≤ eP a b := Int.le_ediv_of_mul_le g1 (by omega)
  have q1 : 1 ≤ eQ a b := Int.le_ediv_of_mul_le g1 (by have : eG a b ≤ b.d := gI_le_right _ (by omega); omega)
  have pl : eP a b ≤ a.d := Int.ediv_le_self _ (by omega)
  have ql : eQ a b ≤ b.d := Int.ediv_le_self _ (by omega)
  have aq := Int.mul_nonneg a3 (show 0 ≤ eQ a b by omega)
  have bp := Int.mul_nonneg b3 (show 0 ≤ eP a b by omega)
  have aq2 := Int.mul_le_mul (show a.n ≤ 1000000000000000 by omega) (show eQ a b ≤ 1000000000000000 by omega) (show 0 ≤ eQ a b by omega) (by omega)
  have bp2 := Int.mul_le_mul (show b.n ≤ 1000000000000000 by omega) (show eP a b ≤ 1000000000000000 by omega) (show 0 ≤ eP a b by omega) (by omega)
  have h0 : 0 < eH a b := gI_pos (.inr g1)
  have hg : eH a b ≤ eG a b := gI_le_right _ g1
  have hd : eG a b / eH a b * eH a b = eG a b := Int.ediv_mul_cancel (gI_dvd_right (by omega))
  have gh1 : 1 ≤ eG a b / eH a b := Int.le_ediv_of_mul_le h0 (by omega)
  have ghl : eG a b / eH a b ≤ eG a b := Int.ediv_le_self _ (by omega)
  exact ⟨by omega, by omega, p1, by omega, q1, by omega, pa, qb, by unfold eN; omega, rfl, aq, bp, by unfold eN; omega, by omega, hg, hd, gh1, by omega⟩
/-- no sum is more than 1 -/
theorem EF.le_one {a b : Ch} {g p q n h : Int} (e : EF a b g p q n h) (hle : ¬ (b.d - b.n) * a.d < a.n * b.d) : n ≤ p * q * g := by
  have h1 : n * g ≤ p * q * g * g := by
    have e1 : n * g = a.n * b.d + b.n * a.d := by
      rw [e.nd, ← e.pa, ← e.qb, Int.add_mul]; congr 1 <;> ac_rfl
    have e2 : p * q * g * g = b.d * a.d := by rw [← e.pa, ← e.qb]; ac_rfl
    rw [Int.sub_mul] at hle
    omega
  have g1 := e.g1
  exact Int.le_of_mul_le_mul_right h1 (by omega)
theorem EF.fits {a b : Ch} {g p q n h : Int} (e : EF a b g p q n h) (hle : ¬ (b.d - b.n) * a.d < a.n * b.d) (hs : p * q * (g / h) ≤ 1000000000000000) : n / h ≤ 1000000000000000 ∧ n / 18446744073709551616 < h := by
  have h1 := e.le_one hle
  have hp := e.h1
  have h2 : p * q * g = p * q * (g / h) * h := by rw [Int.mul_assoc (p * q), e.hd]
  rw [h2] at h1
  have h3 := Int.mul_le_mul_of_nonneg_right hs (show 0 ≤ h by omega)
  constructor
  · have := Int.ediv_le_ediv (show 0 < h by omega) (Int.le_trans h1 h3)
    rwa [Int.mul_ediv_cancel _ (by omega)] at this
  · have : n ≤ 1000000000000000 * h := Int.le_trans h1 h3
    omega
end Go.Proofs.Ytmfbiohdmhbkoaa

/- Plain: lowest terms keep the chances; how far lists are apart. -/
import Derived.Test.YtmfbiohdmhbkoaaPn
namespace Go.Proofs.Ytmfbiohdmhbkoaa

theorem sumL_div {g : Int} (hg : 0 < g) : ∀ {l : List Int}, (∀ x ∈ l, g ∣ x) → g * sumL (l.map fun x => x / g) = sumL l
  | [], _ => by simp [sumL]
  | x :: l, h => by
    have ih := sumL_div hg (l := l) fun y hy => h y (by simp [hy])
    rw [List.map_cons, sumL_cons, sumL_cons, Int.mul_add, ih, Int.mul_ediv_cancel' (h x (by simp))]
theorem sum_low {w : List Int} (ok : OkW w) : gL w * sumL (lowL w) = sumL w := sumL_div ok.gpos (gL_dvd w ok.nn)
theorem low_nn {w : List Int} (ok : OkW w) : ∀ x ∈ lowL w, 0 ≤ x := fun x hx => by
  obtain ⟨y, hy, rfl⟩ := List.mem_map.1 hx
  exact Int.ediv_nonneg (ok.nn y hy) (Int.le_of_lt ok.gpos)
theorem low_ok {w : List Int} (ok : OkW w) : OkW (lowL w) := by
  have h := sum_low ok
  have g := ok.gpos
  have n := sumL_nonneg (low_nn ok)
  have p := ok.pos; have q := ok.le
  refine ⟨by rw [lowL_len]; exact ok.len, low_nn ok, ?_, ?_⟩
  · rcases Int.lt_or_eq_of_le n with h1 | h1
    · omega
    · rw [← h1, Int.mul_zero] at h; omega
  · have := Int.mul_le_mul_of_nonneg_right (show 1 ≤ gL w by omega) n
    omega
/-- the sum of what one list has more -/
def farL (x y : List Int) (s t : Int) : Nat → Int
  | 0 => 0
  | k + 1 => farL x y s t k + max (x.getD k 0 * t - y.getD k 0 * s) 0
theorem farL_bd {x y : List Int} {s t : Int} (hx : ∀ z ∈ x, 0 ≤ z) (hy : ∀ z ∈ y, 0 ≤ z) (hs : 0 ≤ s) (ht : 0 ≤ t) (hl : x.length = y.length) : ∀ k, k ≤ x.length → 0 ≤ farL x y s t k ∧ farL x y s t k ≤ sumL (x.take k) * t
  | 0, _ => by simp [farL, sumL]
  | k + 1, hk => by
    obtain ⟨h1, h2⟩ := farL_bd hx hy hs ht hl k (by omega)
    have e : x.getD k 0 = x[k]'(by omega) := by simp [show k < x.length by omega]
    have e2 : y.getD k 0 = y[k]'(by omega) := by simp [show k < y.length by omega]
    have a0 := Int.mul_nonneg (hx _ (List.getElem_mem (show k < x.length by omega))) ht
    have b0 := Int.mul_nonneg (hy _ (List.getElem_mem (show k < y.length by omega))) hs
    rw [sumL_take x k (by omega), Int.add_mul]
    simp only [farL, e, e2]
    omega
theorem prod_at {x : List Int} {t : Int} (hx : ∀ z ∈ x, 0 ≤ z) (ht : 0 ≤ t) {k : Nat} (hk : k < x.length) : 0 ≤ x[k] * t ∧ x[k] * t ≤ sumL x * t :=
  ⟨Int.mul_nonneg (hx _ (List.getElem_mem hk)) ht, Int.mul_le_mul_of_nonneg_right (le_sumL hx hk) ht⟩
/-- Apart: numerator, denominator, error -/
def apartR (a b : List Int) : Int × Int × Int :=
  if (if errW a ≠ 0 then errW a else errW b) ≠ 0 then (0, 0, if errW a ≠ 0 then errW a else errW b) else if a.length ≠ b.length then (0, 0, 2)
  else if 1000000000000000 < sumL (lowL a) * sumL (lowL b) then (0, 0, 10)
  else (ratN (farL (lowL a) (lowL b) (sumL (lowL a)) (sumL (lowL b)) a.length) (sumL (lowL a) * sumL (lowL b)), ratD (farL (lowL a) (lowL b) (sumL (lowL a)) (sumL (lowL b)) a.length) (sumL (lowL a) * sumL (lowL b)), 0)
/-- Same: whether two lists give the same chances, and the error -/
def sameR (a b : List Int) : Bool × Int :=
  if (if errW a ≠ 0 then errW a else errW b) ≠ 0 then (false, if errW a ≠ 0 then errW a else errW b) else (lowL a == lowL b, 0)
end Go.Proofs.Ytmfbiohdmhbkoaa

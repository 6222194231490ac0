/- Plain: keep, Of, Given; Fair. -/
import Derived.Test.YtmfbiohdmhbkoaaPl
namespace Go.Proofs.Ytmfbiohdmhbkoaa

/-- the weights of some outcomes, with 0 for all others -/
def keepF (w : List Int) (acc : List Int) (o : List Int) : List Int := o.foldl (fun a k => a.set k.toNat (w.getD k.toNat 0)) acc
def keepL (w o : List Int) : List Int := keepF w (List.replicate w.length 0) o
theorem keepF_snoc (w acc o : List Int) (k : Int) : keepF w acc (o ++ [k]) = (keepF w acc o).set k.toNat (w.getD k.toNat 0) := by simp [keepF]
theorem keepF_len (w : List Int) : ∀ (o acc : List Int), (keepF w acc o).length = acc.length
  | [], _ => rfl
  | k :: o, acc => by
    have := keepF_len w o (acc.set k.toNat (w.getD k.toNat 0))
    simpa [keepF] using this
theorem keepL_len (w o : List Int) : (keepL w o).length = w.length := by simp [keepL, keepF_len]
theorem keepF_mem (w : List Int) : ∀ (o acc : List Int) (j : Nat), (∀ k ∈ o, 0 ≤ k) → (keepF w acc o)[j]? = if j < acc.length ∧ (j : Int) ∈ o then some (w.getD j 0) else acc[j]?
  | [], acc, j, _ => by simp [keepF]
  | k :: o, acc, j, h => by
    have ih := keepF_mem w o (acc.set k.toNat (w.getD k.toNat 0)) j fun x hx => h x (by simp [hx])
    have hk := h k (by simp)
    show (keepF w (acc.set k.toNat (w.getD k.toNat 0)) o)[j]? = _
    rw [ih, List.length_set]
    by_cases h1 : j < acc.length
    · by_cases h2 : (j : Int) ∈ o
      · rw [if_pos ⟨h1, h2⟩, if_pos ⟨h1, by simp [h2]⟩]
      · rw [if_neg (by simp [h2])]
        by_cases h3 : k.toNat = j
        · have : (j : Int) = k := by omega
          rw [if_pos ⟨h1, by simp [this]⟩, h3, List.getElem?_set_self h1]
        · have : (j : Int) ≠ k := by omega
          rw [if_neg (by simp [h2, this]), List.getElem?_set_ne h3]
    · rw [if_neg (by omega), if_neg (by omega), List.getElem?_eq_none (by simp; omega), List.getElem?_eq_none (by omega)]
theorem amongF_spec : ∀ (l : List Int) (n next : Int), amongF n next l = true → (∀ k ∈ l, next ≤ k ∧ k < n)
  | [], _, _, _, k, hk => by cases hk
  | x :: l, n, next, h, k, hk => by
    simp only [amongF, Bool.and_eq_true, decide_eq_true_eq] at h
    rcases List.mem_cons.1 hk with rfl | hk
    · exact h.1
    · have := amongF_spec l n (x + 1) h.2 k hk
      omega
theorem among_spec {l : List Int} {n : Int} (h : amongB l n = true) : ∀ k ∈ l, 0 ≤ k ∧ k < n := amongF_spec l n 0 h
/-- what keep leaves is no more than there was -/
theorem keepL_get {w o : List Int} (h : amongB o w.length = true) {j : Nat} (hj : j < w.length) : (keepL w o)[j]? = some (if (j : Int) ∈ o then w[j] else 0) := by
  unfold keepL
  rw [keepF_mem w o _ j (fun k hk => (among_spec h k hk).1)]
  by_cases h1 : (j : Int) ∈ o
  · rw [if_pos ⟨by simpa using hj, h1⟩, if_pos h1]; simp [hj]
  · rw [if_neg (by simp [h1]), if_neg h1]; simp [hj]
theorem keepL_nn {w o : List Int} (ok : OkW w) (h : amongB o w.length = true) : ∀ x ∈ keepL w o, 0 ≤ x := fun x hx => by
  obtain ⟨j, hj, rfl⟩ := List.mem_iff_getElem.1 hx
  have hj' : j < w.length := by rw [keepL_len] at hj; exact hj
  have := keepL_get h hj'
  rw [List.getElem?_eq_getElem hj] at this
  injection this with this
  rw [this]
  split
  · exact (ok.at_ hj').1
  · omega
theorem sumL_mono : ∀ {a b : List Int}, a.length = b.length → (∀ j (h : j < a.length) (h' : j < b.length), a[j] ≤ b[j]) → sumL a ≤ sumL b
  | [], [], _, _ => Int.le_refl _
  | x :: a, y :: b, hl, h => by
    have h0 := h 0 (by simp) (by simp)
    have ih := sumL_mono (a := a) (b := b) (by simpa using hl) fun j h1 h2 => by
      have := h (j + 1) (by simpa using h1) (by simpa using h2); simpa using this
    rw [sumL_cons, sumL_cons]
    simp at h0
    omega
theorem keepL_le {w o : List Int} (ok : OkW w) (h : amongB o w.length = true) : sumL (keepL w o) ≤ sumL w := by
  refine sumL_mono (keepL_len w o) fun j h1 h2 => ?_
  have := keepL_get h h2
  rw [List.getElem?_eq_getElem h1] at this
  injection this with this
  rw [this]
  split
  · exact Int.le_refl _
  · exact (ok.at_ h2).1
/-- Of: numerator, denominator, error -/
def ofR (w o : List Int) : Int × Int × Int :=
  if errW w = 0 then if amongB o w.length then (ratN (sumL (keepL w o)) (sumL w), ratD (sumL (keepL w o)) (sumL w), 0) else (0, 0, 2) else (0, 0, errW w)
def keepR (w o : List Int) : List Int × Int := if errW w = 0 then if amongB o w.length then (keepL w o, 0) else ([], 2) else ([], errW w)
def givenR (w o : List Int) : List Int × Int :=
  if errW w = 0 then if amongB o w.length then if sumL (keepL w o) = 0 then ([], 7) else (keepL w o, 0) else ([], 2) else ([], errW w)
/-- Fair: what is decided of a size and a value, throw by throw -/
def fairGo (s b : Int) : List Int → Int → Int → Int → Int × Int × Int
  | [], size, value, used => if value < size - size % b then (value % b, used, 0) else (0, 0, 7)
  | t :: l, size, value, used => if value < size - size % b then (value % b, used, 0) else fairGo s b l (size % b * s) ((value - (size - size % b)) * s + t) (used + 1)
def fairR (s b : Int) (l : List Int) : Int × Int × Int :=
  if s < 2 ∨ 1000000 < s ∨ b < 1 ∨ 1000000 < b then (0, 0, 3) else if 10000 < l.length then (0, 0, 5) else if l.any (fun n => decide (n < 0) || decide (s ≤ n)) then (0, 0, 2) else fairGo s b l 1 0 0
theorem fairGo_yes {s b : Int} {l : List Int} {size value used : Int} (h : value < size - size % b) : fairGo s b l size value used = (value % b, used, 0) := by
  cases l <;> simp only [fairGo, if_pos h]
theorem fairGo_nil {s b : Int} {size value used : Int} (h : ¬ value < size - size % b) : fairGo s b [] size value used = (0, 0, 7) := by simp only [fairGo, if_neg h]
theorem fairGo_cons {s b t : Int} {l : List Int} {size value used : Int} (h : ¬ value < size - size % b) :
    fairGo s b (t :: l) size value used = fairGo s b l (size % b * s) ((value - (size - size % b)) * s + t) (used + 1) := by simp only [fairGo, if_neg h]
/-- the keeper of sizes: what holds of a size and a value before each throw -/
theorem fair_step {s b t size value : Int} (hb : 1 ≤ b) (hb' : b ≤ 1000000) (hs : 2 ≤ s) (hs' : s ≤ 1000000) (_h0 : 0 ≤ value) (h1 : value < size) (hn : ¬ value < size - size % b) (ht : 0 ≤ t) (ht' : t < s) :
    0 ≤ (value - (size - size % b)) * s + t ∧ (value - (size - size % b)) * s + t < size % b * s ∧ size % b * s ≤ 1000000000000 ∧ 0 ≤ size % b ∧ size % b < b ∧ 0 ≤ value - (size - size % b) ∧ value - (size - size % b) < size % b := by
  have m0 := Int.emod_nonneg size (show b ≠ 0 by omega)
  have m1 := Int.emod_lt_of_pos size (show 0 < b by omega)
  obtain ⟨r, hr⟩ : ∃ r, r = size % b := ⟨_, rfl⟩
  obtain ⟨v, hv⟩ : ∃ v, v = value - (size - size % b) := ⟨_, rfl⟩
  rw [← hv, ← hr]
  rw [← hr] at m0 m1 hn hv
  have v0 : 0 ≤ v := by omega
  have v1 : v + 1 ≤ r := by omega
  have p0 : 0 ≤ v * s := Int.mul_nonneg v0 (by omega)
  have p1 : (v + 1) * s ≤ r * s := Int.mul_le_mul_of_nonneg_right v1 (by omega)
  have p2 : r * s ≤ 1000000 * s := Int.mul_le_mul_of_nonneg_right (by omega) (by omega)
  rw [Int.add_mul, Int.one_mul] at p1
  refine ⟨by omega, by omega, by omega, m0, m1, v0, by omega⟩
end Go.Proofs.Ytmfbiohdmhbkoaa

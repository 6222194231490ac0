/- Plain: the outcome to which a value is dealt; what outcomes are mapped to. -/
import Derived.Test.YtmfbiohdmhbkoaaPn
namespace Go.Proofs.Ytmfbiohdmhbkoaa

/-- the sums of the first numbers -/
def runL (w : List Int) (k : Nat) : List Int := (List.range k).map fun i => sumL (w.take (i + 1))
theorem runL_len (w : List Int) (k : Nat) : (runL w k).length = k := by simp [runL]
theorem runL_get (w : List Int) {k i : Nat} (h : i < k) : (runL w k)[i]'(by rw [runL_len]; exact h) = sumL (w.take (i + 1)) := by simp [runL]
theorem runL_succ (w : List Int) (k : Nat) : runL w (k + 1) = runL w k ++ [sumL (w.take (k + 1))] := by simp [runL, List.range_succ]
theorem take_mono {w : List Int} (h : ∀ x ∈ w, 0 ≤ x) {i j : Nat} (hij : i ≤ j) : sumL (w.take i) ≤ sumL (w.take j) := by
  have := (sumL_take_le (l := w.take j) (fun x hx => h x (List.mem_of_mem_take hx)) i).2
  rwa [List.take_take, Nat.min_eq_left hij] at this
/-- the outcome of a value -/
def pickK : List Int → Int → Nat
  | [], _ => 0
  | x :: l, v => if v < x then 0 else pickK l (v - x) + 1
theorem pickK_spec : ∀ (w : List Int) (v : Int), (∀ x ∈ w, 0 ≤ x) → v < sumL w → 0 ≤ v → pickK w v < w.length ∧ sumL (w.take (pickK w v)) ≤ v ∧ v < sumL (w.take (pickK w v + 1))
  | [], v, _, h, h0 => by simp [sumL] at h; omega
  | x :: l, v, hn, h, h0 => by
    by_cases hx : v < x
    · simp only [pickK, if_pos hx]
      refine ⟨by simp, by simp [sumL]; exact h0, by simp [sumL]; exact hx⟩
    · have ih := pickK_spec l (v - x) (fun y hy => hn y (by simp [hy])) (by rw [sumL_cons] at h; omega) (by omega)
      simp only [pickK, if_neg hx, List.length_cons, List.take_succ_cons, sumL_cons]
      omega
theorem pickK_unique {w : List Int} (hn : ∀ x ∈ w, 0 ≤ x) {v : Int} (h0 : 0 ≤ v) (h : v < sumL w) {k : Nat} (hk1 : sumL (w.take k) ≤ v) (hk2 : v < sumL (w.take (k + 1))) : k = pickK w v := by
  obtain ⟨_, h2, h3⟩ := pickK_spec w v hn h h0
  rcases Nat.lt_trichotomy k (pickK w v) with hlt | heq | hgt
  · have := take_mono hn (show k + 1 ≤ pickK w v by omega); omega
  · exact heq
  · have := take_mono hn (show pickK w v + 1 ≤ k by omega); omega
/-- Pick: the outcome and the error -/
def pickR (w : List Int) (v : Int) : Int × Int := if errW w ≠ 0 then (0, errW w) else if v < 0 ∨ sumL w ≤ v then (0, 3) else ((pickK w v : Int), 0)
/-- what outcomes are mapped to: the first k are added up -/
def mapTo (w to : List Int) (n : Nat) : Nat → List Int
  | 0 => List.replicate n 0
  | k + 1 => bump (mapTo w to n k) (to.getD k 0).toNat (w.getD k 0)
theorem mapTo_len (w to : List Int) (n : Nat) : ∀ k, (mapTo w to n k).length = n
  | 0 => by simp [mapTo]
  | k + 1 => by simp only [mapTo, bump_len, mapTo_len w to n k]
theorem mapTo_nn {w to : List Int} {n : Nat} (h : ∀ x ∈ w, 0 ≤ x) : ∀ k, ∀ y ∈ mapTo w to n k, 0 ≤ y
  | 0 => fun y hy => by simp [mapTo] at hy; omega
  | k + 1 => bump_nn (mapTo_nn h k) (by
      by_cases hk : k < w.length
      · have := h _ (List.getElem_mem hk); simp [hk]; exact this
      · simp [Nat.not_lt.1 hk])
theorem ev_zero (B : Int) : ∀ n, ev B (List.replicate n 0) = 0
  | 0 => rfl
  | n + 1 => by simp [List.replicate_succ, ev, ev_zero B n]
theorem mapTo_sum {w to : List Int} {n : Nat} (ht : ∀ x ∈ to, 0 ≤ x ∧ x < n) (hl : to.length = w.length) : ∀ k, k ≤ w.length → sumL (mapTo w to n k) = sumL (w.take k)
  | 0, _ => by simp only [mapTo, List.take_zero]; rw [← ev_one, ev_zero]; rfl
  | k + 1, hk => by
    have hk' : k < to.length := by omega
    have e := ht _ (List.getElem_mem hk')
    have e1 : to.getD k 0 = to[k] := by simp [hk']
    have e2 : w.getD k 0 = w[k]'(by omega) := by simp [show k < w.length by omega]
    simp only [mapTo]
    rw [← ev_one, ev_bump 1 _ _ _ (by rw [mapTo_len, e1]; omega), ev_one, mapTo_sum ht hl k (by omega), sumL_take w k (by omega), e2, Int.one_pow, Int.mul_one]
def outB (n k : Int) : Bool := decide (k < 0) || decide (n ≤ k)
def mapR (w to : List Int) (n : Int) : List Int × Int :=
  if errW w ≠ 0 then ([], errW w) else if n < 1 ∨ 4096 < n then ([], 3) else if to.length ≠ w.length ∨ to.any (outB n) = true then ([], 2) else (mapTo w to n.toNat w.length, 0)
end Go.Proofs.Ytmfbiohdmhbkoaa

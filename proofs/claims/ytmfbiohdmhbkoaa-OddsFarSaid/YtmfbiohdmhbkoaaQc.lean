/- Plain: COUNTING (OddsCounts). -/
import Derived.Test.YtmfbiohdmhbkoaaQb
import Derived.Test.YtmfbiohdmhbkoaaPq
namespace Go.Proofs.Ytmfbiohdmhbkoaa

/-- how often each outcome is picked by the values below v -/
def cntP (w : List Int) : Nat → List Int
  | 0 => List.replicate w.length 0
  | v + 1 => bump (cntP w v) (pickK w v) 1
theorem cntP_len (w : List Int) : ∀ v, (cntP w v).length = w.length
  | 0 => by simp [cntP]
  | v + 1 => by rw [cntP, bump_len, cntP_len w v]
/-- each as often as the values lie in its part -/
theorem cntP_get {w : List Int} (hn : ∀ x ∈ w, 0 ≤ x) {i : Nat} (hi : i < w.length) : ∀ v : Nat, (v : Int) ≤ sumL w → (cntP w v).getD i 0 = min (max ((v : Int) - sumL (w.take i)) 0) w[i]
  | 0, _ => by
    have h1 := (sumL_take_le hn i).1
    have h2 := hn _ (List.getElem_mem hi)
    simp only [cntP]
    rw [List.getD_eq_getElem?_getD, List.getElem?_replicate]
    simp [hi]; omega
  | v + 1, h => by
    have ih := cntP_get hn hi v (by omega)
    obtain ⟨p1, p2, p3⟩ := pickK_spec w v hn (by omega) (by omega)
    have st := sumL_take w i hi
    have h2 := hn _ (List.getElem_mem hi)
    simp only [cntP, bump]
    rw [List.getD_eq_getElem?_getD, List.getElem?_set]
    by_cases e : pickK w v = i
    · subst e
      rw [if_pos rfl, if_pos (by rw [cntP_len]; exact p1)]
      simp only [Option.getD_some]
      rw [ih]
      omega
    · rw [if_neg e, ← List.getD_eq_getElem?_getD, ih]
      rcases Nat.lt_trichotomy (pickK w v) i with hlt | heq | hgt
      · have := take_mono hn (show pickK w v + 1 ≤ i by omega); omega
      · exact absurd heq e
      · have := take_mono hn (show i + 1 ≤ pickK w v by omega); omega
theorem cntP_all {w : List Int} (ok : OkW w) : cntP w (sumL w).toNat = w := by
  have hp := ok.pos
  apply List.ext_getElem (cntP_len w _)
  intro i h1 h2
  have h := cntP_get ok.nn h2 (sumL w).toNat (by omega)
  have h3 := sumL_take w i h2
  have h4 := (sumL_take_le ok.nn (i + 1)).2
  have h5 := ok.nn _ (List.getElem_mem h2)
  rw [List.getD_eq_getElem?_getD, List.getElem?_eq_getElem h1] at h
  simp only [Option.getD_some] at h
  rw [h]; omega
theorem cntP_bd {w : List Int} (hn : ∀ x ∈ w, 0 ≤ x) {v : Nat} (h : (v : Int) ≤ sumL w) {i : Nat} (hi : i < w.length) : 0 ≤ (cntP w v).getD i 0 ∧ (cntP w v).getD i 0 ≤ w[i] := by
  have := cntP_get hn hi v h
  have h2 := hn _ (List.getElem_mem hi)
  omega
/-- all outcomes but one, of the first k -/
def othersP (a k : Nat) : List Int := ((List.range k).filter (fun i => i != a)).map Int.ofNat
theorem othersP_succ (a k : Nat) : othersP a (k + 1) = othersP a k ++ if k = a then [] else [(k : Int)] := by
  unfold othersP
  rw [List.range_succ, List.filter_append, List.map_append]
  by_cases h : k = a
  · subst h; simp
  · simp [h]
theorem othersP_len (a k : Nat) : (othersP a k).length ≤ k := by
  unfold othersP
  rw [List.length_map]
  have := List.length_filter_le (fun i => i != a) (List.range k)
  rwa [List.length_range] at this
theorem amongF_snoc {n : Int} : ∀ {l : List Int} {next k : Int}, amongF n next l = true → next ≤ k → (∀ x ∈ l, x < k) → k < n → amongF n next (l ++ [k]) = true
  | [], next, k, _, h1, _, h3 => by simp [amongF, h1, h3]
  | x :: l, next, k, h, h1, h2, h3 => by
    simp only [amongF, Bool.and_eq_true, decide_eq_true_eq, List.cons_append] at h ⊢
    have hx := h2 x (by simp)
    exact ⟨h.1, amongF_snoc h.2 (by omega) (fun y hy => h2 y (by simp [hy])) h3⟩
theorem othersP_lt (a k : Nat) : ∀ x ∈ othersP a k, 0 ≤ x ∧ x < k := by
  intro x hx
  unfold othersP at hx
  obtain ⟨j, hj, rfl⟩ := List.mem_map.1 hx
  have := List.mem_range.1 (List.mem_filter.1 hj).1
  simp; omega
theorem amongF_more {n m : Int} (h : n ≤ m) : ∀ {l : List Int} {next : Int}, amongF n next l = true → amongF m next l = true
  | [], _, _ => rfl
  | x :: l, next, h1 => by
    simp only [amongF, Bool.and_eq_true, decide_eq_true_eq] at h1 ⊢
    exact ⟨⟨h1.1.1, by omega⟩, amongF_more h h1.2⟩
theorem others_among (a : Nat) : ∀ k : Nat, amongB (othersP a k) k = true
  | 0 => by simp [othersP, amongB, amongF]
  | k + 1 => by
    have ih := others_among a k
    rw [othersP_succ]
    by_cases h : k = a
    · rw [if_pos h, List.append_nil]; exact amongF_more (by omega) ih
    · rw [if_neg h]
      exact amongF_snoc (amongF_more (by omega) ih) (by omega) (fun x hx => (othersP_lt a k x hx).2) (by omega)
theorem selS_append (w a b : List Int) : selS w (a ++ b) = selS w a + selS w b := by simp [selS, sumL_append]
theorem selS_others {w : List Int} (a : Nat) : ∀ k : Nat, k ≤ w.length → selS w (othersP a k) = sumL (w.take k) - if a < k then w.getD a 0 else 0
  | 0, _ => by simp [othersP, selS, sumL]
  | k + 1, h => by
    rw [othersP_succ, selS_append, selS_others a k (by omega), sumL_take w k (by omega)]
    have e : w[k]'(by omega) = w.getD k 0 := by simp [show k < w.length by omega]
    rw [e]
    by_cases h1 : k = a
    · subst h1; rw [if_pos rfl, if_neg (by omega), if_pos (by omega)]; simp [selS, sumL]
    · rw [if_neg h1]
      have : selS w [(k : Int)] = w.getD k 0 := by simp [selS, sumL]
      rw [this]
      by_cases h2 : a < k
      · rw [if_pos h2, if_pos (by omega)]; omega
      · rw [if_neg h2, if_neg (by omega)]; omega
theorem selS_one (w : List Int) (a : Nat) : selS w [(a : Int)] = w.getD a 0 := by simp [selS, sumL]
/-- the two outcomes in order, or one -/
def twoP (a b : Nat) : List Int := if a = b then [(a : Int)] else [((min a b : Nat) : Int), ((max a b : Nat) : Int)]
theorem two_among {a b n : Nat} (ha : a < n) (hb : b < n) : amongB (twoP a b) n = true := by
  unfold twoP
  split
  · simp [amongB, amongF]; omega
  · simp [amongB, amongF]; omega
theorem one_among {a n : Nat} (ha : a < n) : amongB [(a : Int)] n = true := by simp [amongB, amongF]; omega
theorem two_sel (w : List Int) (a b : Nat) : selS w (twoP a b) = if a = b then w.getD a 0 else w.getD a 0 + w.getD b 0 := by
  unfold twoP
  split
  · exact selS_one w a
  · rcases Nat.le_total a b with h | h
    · rw [Nat.min_eq_left h, Nat.max_eq_right h]; simp [selS, sumL]
    · rw [Nat.min_eq_right h, Nat.max_eq_left h]; simp [selS, sumL]; omega
theorem two_mem (a b : Nat) : (a : Int) ∈ twoP a b := by
  unfold twoP
  split
  · simp
  · rcases Nat.le_total a b with h | h
    · rw [Nat.min_eq_left h]; simp
    · rw [Nat.max_eq_left h]; simp
section
variable {w : List Int}
theorem getD_nn (hn : ∀ x ∈ w, 0 ≤ x) (i : Nat) : 0 ≤ w.getD i 0 := by
  by_cases h : i < w.length
  · have := hn _ (List.getElem_mem h); simp [h]; exact this
  · simp [Nat.not_lt.1 h]
/-- the chances of an outcome and of all others add up to 1 -/
theorem counts_one (ok : OkW w) {a : Nat} (ha : a < w.length) :
    ofR w [(a : Int)] = (ratN (w.getD a 0) (sumL w), ratD (w.getD a 0) (sumL w), 0) ∧ ofR w (othersP a w.length) = (ratN (sumL w - w.getD a 0) (sumL w), ratD (sumL w - w.getD a 0) (sumL w), 0)
    ∧ eitherR ⟨ratN (w.getD a 0) (sumL w), ratD (w.getD a 0) (sumL w)⟩ ⟨ratN (sumL w - w.getD a 0) (sumL w), ratD (sumL w - w.getD a 0) (sumL w)⟩ = (1, 1, 0) := by
  obtain ⟨e1, o1, c1, n1, l1⟩ := of_val ok (one_among ha)
  obtain ⟨e2, o2, c2, n2, l2⟩ := of_val ok (others_among a w.length)
  have s2 := selS_others (w := w) a w.length (Nat.le_refl _)
  rw [List.take_length, if_pos ha] at s2
  rw [selS_one] at e1 o1 c1 n1 l1
  rw [s2] at e2 o2 c2 n2 l2
  refine ⟨e1, e2, either_val o1 o2 ⟨by omega, by omega, by decide⟩ (by omega) (by omega) (by omega) ?_⟩
  have hp := ok.pos
  simp only
  obtain ⟨x, hx⟩ : ∃ x, x = ratN (w.getD a 0) (sumL w) := ⟨_, rfl⟩
  obtain ⟨y, hy⟩ : ∃ x, x = ratD (w.getD a 0) (sumL w) := ⟨_, rfl⟩
  obtain ⟨x', hx'⟩ : ∃ x, x = ratN (sumL w - w.getD a 0) (sumL w) := ⟨_, rfl⟩
  obtain ⟨y', hy'⟩ : ∃ x, x = ratD (sumL w - w.getD a 0) (sumL w) := ⟨_, rfl⟩
  rw [← hx, ← hy] at c1
  rw [← hx', ← hy'] at c2
  rw [← hx, ← hy, ← hx', ← hy']
  apply Int.eq_of_mul_eq_mul_right (a := sumL w) (by omega)
  have : 1 * (x * y' + x' * y) * sumL w = (x * sumL w) * y' + (x' * sumL w) * y := by rw [Int.one_mul, Int.add_mul]; congr 1 <;> ac_rfl
  rw [this, c1, c2, Int.one_mul, Int.sub_mul, Int.sub_mul]
  have e3 : w.getD a 0 * y * y' = w.getD a 0 * y' * y := by ac_rfl
  have e4 : sumL w * y' * y = y * y' * sumL w := by ac_rfl
  rw [e3, e4]; omega
/-- given an outcome, the chance of both is that of the outcome times that of the other one -/
theorem counts_both (ok : OkW w) {a b : Nat} (ha : a < w.length) (hb : b < w.length) (hs : selS w (twoP a b) ≠ 0) :
    givenR w (twoP a b) = (keepL w (twoP a b), 0) ∧ OkW (keepL w (twoP a b)) ∧ (keepL w (twoP a b)).length = w.length ∧
    ofR w (twoP a b) = (ratN (selS w (twoP a b)) (sumL w), ratD (selS w (twoP a b)) (sumL w), 0) ∧
    ofR (keepL w (twoP a b)) [(a : Int)] = (ratN (w.getD a 0) (selS w (twoP a b)), ratD (w.getD a 0) (selS w (twoP a b)), 0) ∧
    bothR ⟨ratN (selS w (twoP a b)) (sumL w), ratD (selS w (twoP a b)) (sumL w)⟩ ⟨ratN (w.getD a 0) (selS w (twoP a b)), ratD (w.getD a 0) (selS w (twoP a b))⟩ = (ratN (w.getD a 0) (sumL w), ratD (w.getD a 0) (sumL w), 0) := by
  have hA := two_among ha hb
  obtain ⟨e1, o1, c1, n1, l1⟩ := of_val ok (one_among ha)
  rw [selS_one] at e1 o1 c1 n1 l1
  obtain ⟨e2, o2, c2, n2, l2⟩ := of_val ok hA
  have ks := keepL_sel hA
  have kl := keepL_len w (twoP a b)
  have ok2 : OkW (keepL w (twoP a b)) := ⟨by rw [kl]; exact ok.len, keepL_nn ok hA, by rw [ks]; omega, by rw [ks]; have := ok.le; omega⟩
  have kg : (keepL w (twoP a b)).getD a 0 = w.getD a 0 := by
    rw [List.getD_eq_getElem?_getD, keepL_get hA ha, if_pos (two_mem a b)]; simp [ha]
  obtain ⟨e3, o3, c3, n3, l3⟩ := of_val ok2 (o := [(a : Int)]) (by rw [kl]; exact one_among ha)
  rw [selS_one, kg, ks] at e3 o3 c3 l3
  refine ⟨?_, ok2, kl, e2, e3, both_val o2 o3 o1.co (by have := o1.d1; exact this) o1.d2 ?_⟩
  · unfold givenR
    rw [if_pos (errW_zero.2 ok), if_pos hA, if_neg (by rw [ks]; exact hs)]
  · simp only
    have hp := ok.pos
    obtain ⟨s, hs'⟩ : ∃ s, s = selS w (twoP a b) := ⟨_, rfl⟩
    rw [← hs'] at c2 c3 hs n2 ⊢
    obtain ⟨u, hu⟩ : ∃ s, s = w.getD a 0 := ⟨_, rfl⟩
    rw [← hu] at c1 c3 ⊢
    obtain ⟨S, hS⟩ : ∃ s, s = sumL w := ⟨_, rfl⟩
    rw [← hS] at c1 c2 hp ⊢
    apply Int.eq_of_mul_eq_mul_right (a := S * s) (by have := Int.mul_pos (show 0 < S by omega) (show 0 < s by omega); omega)
    calc ratN u S * (ratD s S * ratD u s) * (S * s) = (ratN u S * S) * (ratD s S * (ratD u s * s)) := by ac_rfl
      _ = (u * ratD u S) * (ratD s S * (ratD u s * s)) := by rw [c1]
      _ = ratD u S * ((s * ratD s S) * (u * ratD u s)) := by ac_rfl
      _ = ratD u S * ((ratN s S * S) * (ratN u s * s)) := by rw [c2, c3]
      _ = ratD u S * (ratN s S * ratN u s) * (S * s) := by ac_rfl
theorem counts_none (ok : OkW w) {a b : Nat} (ha : a < w.length) (hb : b < w.length) (hs : selS w (twoP a b) = 0) : givenR w (twoP a b) = ([], 7) ∧ w.getD a 0 = 0 ∧ w.getD b 0 = 0 := by
  have hA := two_among ha hb
  have na := getD_nn ok.nn a; have nb := getD_nn ok.nn b
  refine ⟨?_, ?_⟩
  · unfold givenR
    rw [if_pos (errW_zero.2 ok), if_pos hA, if_pos (by rw [keepL_sel hA]; exact hs)]
  · rw [two_sel] at hs
    by_cases e : a = b
    · subst e; rw [if_pos rfl] at hs; exact ⟨hs, hs⟩
    · rw [if_neg e] at hs; omega
end
end Go.Proofs.Ytmfbiohdmhbkoaa

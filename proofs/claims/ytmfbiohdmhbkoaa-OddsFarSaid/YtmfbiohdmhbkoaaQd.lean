/- Plain: APART (OddsFar). -/
import Derived.Test.YtmfbiohdmhbkoaaQb
import Derived.Test.YtmfbiohdmhbkoaaQc
import Derived.Test.YtmfbiohdmhbkoaaPr
namespace Go.Proofs.Ytmfbiohdmhbkoaa

/-- a chance has the value V / M -/
def Has (n d V M : Int) : Prop := n * M = V * d
theorem Has.scale {n d V M : Int} (h : Has n d V M) (k : Int) : Has n d (V * k) (M * k) := by
  unfold Has at *
  rw [← Int.mul_assoc, h]; ac_rfl
theorem Has.le {n d n' d' V V' M : Int} (h : Has n d V M) (h' : Has n' d' V' M) (hM : 0 < M) (hd : 0 < d) (hd' : 0 < d') (hv : V ≤ V') : n * d' ≤ n' * d := by
  apply Int.le_of_mul_le_mul_right (a := M) _ hM
  unfold Has at h h'
  calc n * d' * M = n * M * d' := by ac_rfl
    _ = V * d * d' := by rw [h]
    _ ≤ V' * d * d' := Int.mul_le_mul_of_nonneg_right (Int.mul_le_mul_of_nonneg_right hv (by omega)) (by omega)
    _ = V' * d' * d := by ac_rfl
    _ = n' * M * d := by rw [h']
    _ = n' * d * M := by ac_rfl
theorem cmp_le {x y : Int} (h : x ≤ y) : cmpI x y ≤ 0 := by unfold cmpI; rw [if_neg (show ¬ y < x by omega)]; split <;> omega
theorem Has.add {a b : Ch} {V V' M : Int} (h : Has a.n a.d V M) (h' : Has b.n b.d V' M) (hM : 0 < M) (he : (eitherR a b).2.2 = 0) : Has (eitherR a b).1 (eitherR a b).2.1 (V + V') M := by
  obtain ⟨ha, hb, ho, e⟩ := either_ok he
  obtain ⟨⟨N, D, r⟩, hr⟩ : ∃ x, x = eitherR a b := ⟨_, rfl⟩
  rw [← hr] at e ⊢
  simp only at e ⊢
  unfold Has at *
  have ad := ha.d1; have bd := hb.d1
  have pp : 0 < a.d * b.d := Int.mul_pos (by omega) (by omega)
  apply Int.eq_of_mul_eq_mul_right (a := a.d * b.d) (by omega)
  calc N * M * (a.d * b.d) = N * (a.d * b.d) * M := by ac_rfl
    _ = D * (a.n * b.d + b.n * a.d) * M := by rw [e]
    _ = D * (a.n * M * b.d + b.n * M * a.d) := by
        rw [Int.mul_assoc, Int.add_mul]
        congr 2 <;> ac_rfl
    _ = D * (V * a.d * b.d + V' * b.d * a.d) := by rw [h, h']
    _ = (V + V') * D * (a.d * b.d) := by
        rw [Int.add_mul, Int.add_mul, Int.mul_add]; congr 1 <;> ac_rfl
/-- the distance, of lists as they are -/
theorem far_scale {x y : List Int} {s t g h : Int} (hg : 0 ≤ g) (hh : 0 ≤ h) : ∀ k, farL (x.map (· * g)) (y.map (· * h)) (s * g) (t * h) k = g * h * farL x y s t k
  | 0 => by simp [farL]
  | k + 1 => by
    have e1 : (x.map (· * g)).getD k 0 = x.getD k 0 * g := by
      rw [List.getD_eq_getElem?_getD, List.getElem?_map, List.getD_eq_getElem?_getD]
      cases x[k]? <;> simp
    have e2 : (y.map (· * h)).getD k 0 = y.getD k 0 * h := by
      rw [List.getD_eq_getElem?_getD, List.getElem?_map, List.getD_eq_getElem?_getD]
      cases y[k]? <;> simp
    simp only [farL, far_scale hg hh k, e1, e2]
    have e3 : x.getD k 0 * g * (t * h) - y.getD k 0 * h * (s * g) = g * h * (x.getD k 0 * t - y.getD k 0 * s) := by
      rw [Int.mul_sub]; congr 1 <;> ac_rfl
    rw [e3, Int.mul_add]
    congr 1
    have gh := Int.mul_nonneg hg hh
    rcases Int.le_total (x.getD k 0 * t - y.getD k 0 * s) 0 with hz | hz
    · rw [Int.max_eq_right hz, Int.mul_zero, Int.max_eq_right]
      exact Int.mul_nonpos_of_nonneg_of_nonpos gh hz
    · rw [Int.max_eq_left hz, Int.max_eq_left]
      exact Int.mul_nonneg gh hz
theorem low_map {w : List Int} (ok : OkW w) : (lowL w).map (· * gL w) = w := by
  apply List.ext_getElem
  · simp [lowL]
  · intro i h1 h2
    simp only [lowL, List.map_map, List.getElem_map, Function.comp]
    exact Int.ediv_mul_cancel (gL_dvd w ok.nn _ (List.getElem_mem h2))
theorem low_sum {w : List Int} (ok : OkW w) : sumL (lowL w) * gL w = sumL w := by rw [Int.mul_comm]; exact sum_low ok
theorem far_low {a b : List Int} (ha : OkW a) (hb : OkW b) (k : Nat) : farL a b (sumL a) (sumL b) k = gL a * gL b * farL (lowL a) (lowL b) (sumL (lowL a)) (sumL (lowL b)) k := by
  have := far_scale (x := lowL a) (y := lowL b) (s := sumL (lowL a)) (t := sumL (lowL b)) (Int.le_of_lt ha.gpos) (Int.le_of_lt hb.gpos) k
  rw [low_map ha, low_map hb, low_sum ha, low_sum hb] at this
  exact this
/-- what one list has more is what the other one has more -/
theorem far_diff (x y : List Int) (s t : Int) : ∀ k, k ≤ x.length → k ≤ y.length → farL x y s t k - farL y x t s k = sumL (x.take k) * t - sumL (y.take k) * s
  | 0, _, _ => by simp [farL, sumL]
  | k + 1, h1, h2 => by
    have ih := far_diff x y s t k (by omega) (by omega)
    rw [sumL_take x k (by omega), sumL_take y k (by omega), Int.add_mul, Int.add_mul]
    have e1 : x.getD k 0 = x[k]'(by omega) := by simp [show k < x.length by omega]
    have e2 : y.getD k 0 = y[k]'(by omega) := by simp [show k < y.length by omega]
    simp only [farL, e1, e2]
    omega
theorem far_comm {x y : List Int} (hl : x.length = y.length) : farL x y (sumL x) (sumL y) x.length = farL y x (sumL y) (sumL x) x.length := by
  have := far_diff x y (sumL x) (sumL y) x.length (Nat.le_refl _) (by omega)
  rw [List.take_length] at this
  conv at this => rhs; rw [hl, List.take_length, Int.mul_comm (sumL y)]
  omega
theorem far_nn (x y : List Int) (s t : Int) : ∀ k, 0 ≤ farL x y s t k
  | 0 => Int.le_refl _
  | k + 1 => by have := far_nn x y s t k; simp only [farL]; omega
theorem far_le_zero {x y : List Int} {s t : Int} : ∀ k, farL x y s t k = 0 → ∀ i, i < k → x.getD i 0 * t ≤ y.getD i 0 * s
  | 0, _, i, h => by omega
  | k + 1, h0, i, h => by
    have n := far_nn x y s t k
    simp only [farL] at h0
    by_cases e : i = k
    · subst e; omega
    · exact far_le_zero k (by omega) i (by omega)
theorem far_self (x : List Int) (s : Int) : ∀ k, farL x x s s k = 0
  | 0 => rfl
  | k + 1 => by simp only [farL, far_self x s k]; omega
/-- lists in lowest terms that are equal crosswise are the same -/
theorem low_cross {a b : List Int} (ha : OkW a) (hb : OkW b) (hl : a.length = b.length) (h : ∀ i, i < a.length → (lowL a).getD i 0 * sumL (lowL b) = (lowL b).getD i 0 * sumL (lowL a)) : lowL a = lowL b := by
  obtain ⟨s, hs⟩ : ∃ s, s = sumL (lowL a) := ⟨_, rfl⟩
  obtain ⟨t, ht⟩ : ∃ s, s = sumL (lowL b) := ⟨_, rfl⟩
  have s1 : 1 ≤ s := by rw [hs]; exact (low_ok ha).pos
  have t1 : 1 ≤ t := by rw [ht]; exact (low_ok hb).pos
  rw [← hs, ← ht] at h
  have g0 : 0 < gI s t := gI_pos (.inl (by omega))
  have co : Co (s / gI s t) (t / gI s t) := co_div (by omega) (by omega) g0
  have es : s / gI s t * gI s t = s := Int.ediv_mul_cancel (gI_dvd_left (by omega))
  have et : t / gI s t * gI s t = t := Int.ediv_mul_cancel (gI_dvd_right (by omega))
  obtain ⟨s', hs'⟩ : ∃ x, x = s / gI s t := ⟨_, rfl⟩
  obtain ⟨t', ht'⟩ : ∃ x, x = t / gI s t := ⟨_, rfl⟩
  obtain ⟨d, hd⟩ : ∃ x, x = gI s t := ⟨_, rfl⟩
  rw [← hs', ← ht'] at co
  rw [← hs', ← hd] at es
  rw [← ht', ← hd] at et
  rw [← hd] at g0
  have h' : ∀ i, i < a.length → (lowL a).getD i 0 * t' = (lowL b).getD i 0 * s' := fun i hi => by
    have := h i hi
    rw [← es, ← et, ← Int.mul_assoc, ← Int.mul_assoc] at this
    exact Int.eq_of_mul_eq_mul_right (by omega) this
  have la : (lowL a).length = a.length := lowL_len a
  have lb : (lowL b).length = b.length := lowL_len b
  have nA : ∀ i, 0 ≤ (lowL a).getD i 0 := fun i => getD_nn (low_nn ha) i
  have nB : ∀ i, 0 ≤ (lowL b).getD i 0 := fun i => getD_nn (low_nn hb) i
  have one : ∀ {w : List Int} {c : Int}, OkW w → 0 ≤ c → (∀ i, i < w.length → c ∣ (lowL w).getD i 0) → c ≤ 1 := fun {w c} ok hc hdv => by
    have h1 : ∀ x ∈ w, c * gL w ∣ x := fun x hx => by
      obtain ⟨i, hi, rfl⟩ := List.mem_iff_getElem.1 hx
      have e : (lowL w).getD i 0 = w[i] / gL w := by simp [lowL, hi]
      have h2 := hdv i hi
      rw [e] at h2
      have h3 : w[i] = w[i] / gL w * gL w := (Int.ediv_mul_cancel (gL_dvd w ok.nn _ (List.getElem_mem hi))).symm
      rw [h3]
      exact Int.mul_dvd_mul h2 (Int.dvd_refl _)
    have h2 := dvd_gL w ok.nn h1
    have g := ok.gpos
    have h3 := Int.le_of_dvd g h2
    have h4 : c * gL w ≤ 1 * gL w := by omega
    exact Int.le_of_mul_le_mul_right h4 g
  have cs : s' ≤ 1 := one ha co.1 fun i hi => co.dvd (nA i) ⟨(lowL b).getD i 0, by rw [Int.mul_comm t', h' i hi, Int.mul_comm]⟩
  have ct : t' ≤ 1 := one hb co.2.1 fun i hi => co.symm.dvd (nB i) ⟨(lowL a).getD i 0, by rw [Int.mul_comm s', ← h' i (by omega), Int.mul_comm]⟩
  have s0 : s' = 1 := by
    rcases Int.lt_or_le 0 s' with h | h
    · omega
    · have : s' = 0 := by have := co.1; omega
      rw [this] at es; omega
  have t0 : t' = 1 := by
    rcases Int.lt_or_le 0 t' with h | h
    · omega
    · have : t' = 0 := by have := co.2.1; omega
      rw [this] at et; omega
  apply List.ext_getElem (by rw [la, lb, hl])
  intro i h1 h2
  have := h' i (by omega)
  rw [s0, t0, Int.mul_one, Int.mul_one] at this
  simpa [h1, h2] using this
/-- what Apart returns without an error -/
theorem apart_ok {a b : List Int} (h : (apartR a b).2.2 = 0) : OkW a ∧ OkW b ∧ a.length = b.length ∧ sumL (lowL a) * sumL (lowL b) ≤ 1000000000000000 := by
  unfold apartR at h
  by_cases h1 : errW a = 0
  · by_cases h2 : errW b = 0
    · rw [if_neg (fun hh => hh (by rw [if_neg (fun hh => hh h1), h2]))] at h
      by_cases h3 : a.length = b.length
      · rw [if_neg (fun hh => hh h3)] at h
        by_cases h4 : 1000000000000000 < sumL (lowL a) * sumL (lowL b)
        · rw [if_pos h4] at h; cases h
        · exact ⟨errW_zero.1 h1, errW_zero.1 h2, h3, by omega⟩
      · rw [if_pos h3] at h; cases h
    · have e : (if errW a ≠ 0 then errW a else errW b) ≠ 0 := by rw [if_neg (fun hh => hh h1)]; exact h2
      rw [if_pos e] at h; exact absurd h e
  · have e : (if errW a ≠ 0 then errW a else errW b) ≠ 0 := by rw [if_pos h1]; exact h1
    rw [if_pos e] at h; exact absurd h e
theorem apart_eq {a b : List Int} (ha : OkW a) (hb : OkW b) (hl : a.length = b.length) (hs : sumL (lowL a) * sumL (lowL b) ≤ 1000000000000000) : apartR a b =
    (ratN (farL (lowL a) (lowL b) (sumL (lowL a)) (sumL (lowL b)) a.length) (sumL (lowL a) * sumL (lowL b)), ratD (farL (lowL a) (lowL b) (sumL (lowL a)) (sumL (lowL b)) a.length) (sumL (lowL a) * sumL (lowL b)), 0) := by
  unfold apartR
  rw [if_neg (fun hh => hh (by rw [if_neg (fun hh => hh (errW_zero.2 ha)), errW_zero.2 hb])), if_neg (fun hh => hh hl), if_neg (by omega)]
theorem apart_comm {a b : List Int} (h : (apartR a b).2.2 = 0) : apartR b a = apartR a b := by
  obtain ⟨ha, hb, hl, hs⟩ := apart_ok h
  rw [apart_eq ha hb hl hs, apart_eq hb ha hl.symm (by rw [Int.mul_comm]; exact hs), Int.mul_comm (sumL (lowL b))]
  have := far_comm (x := lowL a) (y := lowL b) (by rw [lowL_len, lowL_len]; exact hl)
  rw [lowL_len] at this
  rw [this, hl]
theorem apart_not {a b : List Int} (h : (apartR a b).2.2 ≠ 0) : (apartR a b).1 = 0 ∧ (apartR a b).2.1 = 0 ∧ (apartR b a).2.2 ≠ 0 := by
  have key : (apartR a b).1 = 0 ∧ (apartR a b).2.1 = 0 := by
    unfold apartR at h ⊢
    by_cases c1 : (if errW a ≠ 0 then errW a else errW b) ≠ 0
    · rw [if_pos c1]; exact ⟨rfl, rfl⟩
    · rw [if_neg c1] at h ⊢
      by_cases c2 : a.length ≠ b.length
      · rw [if_pos c2]; exact ⟨rfl, rfl⟩
      · rw [if_neg c2] at h ⊢
        by_cases c3 : 1000000000000000 < sumL (lowL a) * sumL (lowL b)
        · rw [if_pos c3]; exact ⟨rfl, rfl⟩
        · rw [if_neg c3] at h; exact absurd rfl h
  exact ⟨key.1, key.2, fun hh => h (by rw [apart_comm hh]; exact hh)⟩
theorem low_bd {a b : List Int} (ha : OkW a) (hb : OkW b) (hl : a.length = b.length) : 0 < sumL (lowL a) * sumL (lowL b) ∧ 0 ≤ farL (lowL a) (lowL b) (sumL (lowL a)) (sumL (lowL b)) a.length ∧ farL (lowL a) (lowL b) (sumL (lowL a)) (sumL (lowL b)) a.length ≤ sumL (lowL a) * sumL (lowL b) := by
  have p1 := (low_ok ha).pos; have p2 := (low_ok hb).pos
  obtain ⟨b1, b2⟩ := farL_bd (low_nn ha) (low_nn hb) (show 0 ≤ sumL (lowL a) by omega) (show 0 ≤ sumL (lowL b) by omega) (by rw [lowL_len, lowL_len]; exact hl) a.length (by rw [lowL_len]; exact Nat.le_refl _)
  rw [← lowL_len a, List.take_length, lowL_len] at b2
  exact ⟨Int.mul_pos (by omega) (by omega), b1, b2⟩
/-- the value of the distance -/
theorem apart_has {a b : List Int} (h : (apartR a b).2.2 = 0) : OkC ⟨(apartR a b).1, (apartR a b).2.1⟩ ∧ Has (apartR a b).1 (apartR a b).2.1 (farL a b (sumL a) (sumL b) a.length) (sumL a * sumL b) := by
  obtain ⟨ha, hb, hl, hs⟩ := apart_ok h
  obtain ⟨p, n, l⟩ := low_bd ha hb hl
  rw [apart_eq ha hb hl hs]
  refine ⟨rat_ok n p l hs, ?_⟩
  have c := rat_cross n p
  unfold Has
  simp only
  rw [far_low ha hb, ← low_sum ha, ← low_sum hb]
  calc _ = ratN (farL (lowL a) (lowL b) (sumL (lowL a)) (sumL (lowL b)) a.length) (sumL (lowL a) * sumL (lowL b)) * (sumL (lowL a) * sumL (lowL b)) * (gL a * gL b) := by ac_rfl
    _ = _ := by rw [c]; ac_rfl
/-- the distance is 0 just if the chances are the same -/
theorem apart_zero {a b : List Int} (h : (apartR a b).2.2 = 0) : decide ((apartR a b).1 = 0) = (lowL a == lowL b) := by
  obtain ⟨ha, hb, hl, hs⟩ := apart_ok h
  obtain ⟨p, n, l⟩ := low_bd ha hb hl
  rw [apart_eq ha hb hl hs]
  simp only
  have c := rat_cross n p
  have o := rat_ok n p l hs
  have d1 : 1 ≤ ratD (farL (lowL a) (lowL b) (sumL (lowL a)) (sumL (lowL b)) a.length) (sumL (lowL a) * sumL (lowL b)) := o.d1
  rw [Bool.eq_iff_iff, decide_eq_true_eq, beq_iff_eq]
  constructor
  · intro h0
    rw [h0, Int.zero_mul] at c
    have f0 : farL (lowL a) (lowL b) (sumL (lowL a)) (sumL (lowL b)) a.length = 0 := by
      rcases Int.mul_eq_zero.1 c.symm with h | h
      · exact h
      · omega
    have f1 := far_comm (x := lowL a) (y := lowL b) (by rw [lowL_len, lowL_len]; exact hl)
    rw [lowL_len, f0] at f1
    refine low_cross ha hb hl fun i hi => ?_
    have h1 := far_le_zero _ f0 i hi
    have h2 := far_le_zero _ f1.symm i hi
    omega
  · intro he
    rw [he, far_self, Int.zero_mul] at c
    unfold ratN
    rw [he, far_self]; simp
/-- the outcomes of a set, of the first k -/
def setP (m : Int) (k : Nat) : List Int := ((List.range k).filter fun i => decide (m / 2 ^ i % 2 = 1)).map Int.ofNat
theorem setP_succ (m : Int) (k : Nat) : setP m (k + 1) = setP m k ++ if m / 2 ^ k % 2 = 1 then [(k : Int)] else [] := by
  unfold setP
  rw [List.range_succ, List.filter_append, List.map_append]
  by_cases h : m / 2 ^ k % 2 = 1
  · simp [h]
  · simp [h]
theorem setP_lt (m : Int) (k : Nat) : ∀ x ∈ setP m k, 0 ≤ x ∧ x < k := by
  intro x hx
  unfold setP at hx
  obtain ⟨j, hj, rfl⟩ := List.mem_map.1 hx
  have := List.mem_range.1 (List.mem_filter.1 hj).1
  simp; omega
theorem setP_len (m : Int) (k : Nat) : (setP m k).length ≤ k := by
  unfold setP
  rw [List.length_map]
  have := List.length_filter_le (fun i => decide (m / 2 ^ i % 2 = 1)) (List.range k)
  rwa [List.length_range] at this
theorem setP_among (m : Int) : ∀ k : Nat, amongB (setP m k) k = true
  | 0 => by simp [setP, amongB, amongF]
  | k + 1 => by
    have ih := setP_among m k
    rw [setP_succ]
    by_cases h : m / 2 ^ k % 2 = 1
    · rw [if_pos h]
      exact amongF_snoc (amongF_more (by omega) ih) (by omega) (fun x hx => (setP_lt m k x hx).2) (by omega)
    · rw [if_neg h, List.append_nil]; exact amongF_more (by omega) ih
/-- no set differs by more -/
theorem set_far (a b : List Int) (S T m : Int) : ∀ k : Nat, selS a (setP m k) * T - selS b (setP m k) * S ≤ farL a b S T k
  | 0 => by simp [setP, selS, sumL, farL]
  | k + 1 => by
    have ih := set_far a b S T m k
    rw [setP_succ, selS_append, selS_append, Int.add_mul, Int.add_mul]
    simp only [farL]
    by_cases h : m / 2 ^ k % 2 = 1
    · rw [if_pos h]
      have e1 : selS a [(k : Int)] = a.getD k 0 := selS_one a k
      have e2 : selS b [(k : Int)] = b.getD k 0 := selS_one b k
      rw [e1, e2]; omega
    · rw [if_neg h]
      have e1 : selS a [] = 0 := rfl
      have e2 : selS b [] = 0 := rfl
      rw [e1, e2, Int.zero_mul, Int.zero_mul]; omega
theorem far_bump {x y : List Int} {S T u v : Int} {j : Nat} (hx : j < x.length) (hy : j < y.length) : ∀ n, farL (bump x j u) (bump y j v) S T n ≤ farL x y S T n + if j < n then max (u * T - v * S) 0 else 0
  | 0 => by simp [farL]
  | n + 1 => by
    have ih := far_bump (x := x) (y := y) (S := S) (T := T) (u := u) (v := v) (j := j) hx hy n
    simp only [farL]
    by_cases e : j = n
    · subst e
      rw [if_neg (by omega)] at ih
      rw [if_pos (by omega)]
      have e1 : (bump x j u).getD j 0 = x.getD j 0 + u := by
        unfold bump; rw [List.getD_eq_getElem?_getD, List.getElem?_set_self hx]; rfl
      have e2 : (bump y j v).getD j 0 = y.getD j 0 + v := by
        unfold bump; rw [List.getD_eq_getElem?_getD, List.getElem?_set_self hy]; rfl
      rw [e1, e2, Int.add_mul, Int.add_mul]
      omega
    · have e1 : (bump x j u).getD n 0 = x.getD n 0 := by
        unfold bump; simp only [List.getD_eq_getElem?_getD]; rw [List.getElem?_set_ne e]
      have e2 : (bump y j v).getD n 0 = y.getD n 0 := by
        unfold bump; simp only [List.getD_eq_getElem?_getD]; rw [List.getElem?_set_ne e]
      rw [e1, e2]
      by_cases h : j < n
      · rw [if_pos h] at ih; rw [if_pos (by omega)]; omega
      · rw [if_neg h] at ih; rw [if_neg (by omega)]; omega
theorem far_rep (S T : Int) (m : Nat) : ∀ k, farL (List.replicate m 0) (List.replicate m 0) S T k = 0
  | 0 => rfl
  | k + 1 => by
    have e : (List.replicate m (0 : Int)).getD k 0 = 0 := by
      rw [List.getD_eq_getElem?_getD, List.getElem?_replicate]; split <;> rfl
    simp only [farL, far_rep S T m k, e]; omega
/-- what is mapped is no farther apart -/
theorem far_map {a b to : List Int} {S T : Int} {n : Nat} (ht : ∀ x ∈ to, 0 ≤ x ∧ x < n) : ∀ k, k ≤ to.length → farL (mapTo a to n k) (mapTo b to n k) S T n ≤ farL a b S T k
  | 0, _ => by simp only [mapTo, far_rep, farL]; omega
  | k + 1, hk => by
    have ih := far_map (a := a) (b := b) (S := S) (T := T) ht k (by omega)
    have e := ht _ (List.getElem_mem (show k < to.length by omega))
    have e1 : to.getD k 0 = to[k]'(by omega) := by simp [show k < to.length by omega]
    have hj : (to.getD k 0).toNat < n := by rw [e1]; omega
    have := far_bump (x := mapTo a to n k) (y := mapTo b to n k) (S := S) (T := T) (u := a.getD k 0) (v := b.getD k 0) (j := (to.getD k 0).toNat) (by rw [mapTo_len]; exact hj) (by rw [mapTo_len]; exact hj) n
    rw [if_pos hj] at this
    simp only [mapTo, farL]
    omega
/-- not farther than the way over a third list -/
theorem far_tri {a b c : List Int} {S T R : Int} (hR : 0 ≤ R) (hT : 0 ≤ T) (hS : 0 ≤ S) : ∀ k, farL a b S T k * R ≤ farL a c S R k * T + farL c b R T k * S
  | 0 => by simp [farL]
  | k + 1 => by
    have ih := far_tri (a := a) (b := b) (c := c) hR hT hS k
    simp only [farL, Int.add_mul]
    have m1 : ∀ (x z : Int), 0 ≤ z → max x 0 * z = max (x * z) 0 := fun x z hz => by
      rcases Int.le_total x 0 with h | h
      · rw [Int.max_eq_right h, Int.zero_mul, Int.max_eq_right (Int.mul_nonpos_of_nonpos_of_nonneg h hz)]
      · rw [Int.max_eq_left h, Int.max_eq_left (Int.mul_nonneg h hz)]
    rw [m1 _ _ hR, m1 _ _ hT, m1 _ _ hS, Int.sub_mul, Int.sub_mul, Int.sub_mul]
    have e1 : a.getD k 0 * R * T = a.getD k 0 * T * R := by ac_rfl
    have e2 : c.getD k 0 * T * S = c.getD k 0 * S * T := by ac_rfl
    have e3 : b.getD k 0 * R * S = b.getD k 0 * S * R := by ac_rfl
    rw [e1, e2, e3]
    omega
/-- the mapped lists are valid -/
theorem map3_ok {w to : List Int} (ok : OkW w) (hl : to.length = w.length) (ht : ∀ x ∈ to, 0 ≤ x ∧ x < (3 : Nat)) : OkW (mapTo w to 3 w.length) ∧ sumL (mapTo w to 3 w.length) = sumL w ∧ (mapTo w to 3 w.length).length = 3 := by
  have hs := mapTo_sum ht hl w.length (Nat.le_refl _)
  rw [List.take_length] at hs
  exact ⟨⟨by rw [mapTo_len]; omega, mapTo_nn ok.nn _, by rw [hs]; exact ok.pos, by rw [hs]; exact ok.le⟩, hs, mapTo_len _ _ _ _⟩
theorem of_has {w o : List Int} (ok : OkW w) (ha : amongB o w.length = true) : Has (ofR w o).1 (ofR w o).2.1 (selS w o) (sumL w) ∧ (ofR w o).2.2 = 0 ∧ OkC ⟨(ofR w o).1, (ofR w o).2.1⟩ := by
  obtain ⟨e, o', c, _, _⟩ := of_val ok ha
  rw [e]
  exact ⟨c, rfl, o'⟩
theorem cmp_ok {x y : Ch} (hx : OkC x) (hy : OkC y) : cmpR x y = (cmpI (x.n * y.d) (y.n * x.d), 0) := by
  unfold cmpR
  rw [if_pos (okP_iff.2 ⟨hx, hy⟩)]
section
variable {a b : List Int}
/-- p is at most q and the distance together -/
theorem far_sets (h : (apartR a b).2.2 = 0) (m : Int) (he : (eitherR ⟨(ofR b (setP m a.length)).1, (ofR b (setP m a.length)).2.1⟩ ⟨(apartR a b).1, (apartR a b).2.1⟩).2.2 = 0) :
    OkC ⟨(eitherR ⟨(ofR b (setP m a.length)).1, (ofR b (setP m a.length)).2.1⟩ ⟨(apartR a b).1, (apartR a b).2.1⟩).1, (eitherR ⟨(ofR b (setP m a.length)).1, (ofR b (setP m a.length)).2.1⟩ ⟨(apartR a b).1, (apartR a b).2.1⟩).2.1⟩ ∧
    (ofR a (setP m a.length)).1 * (eitherR ⟨(ofR b (setP m a.length)).1, (ofR b (setP m a.length)).2.1⟩ ⟨(apartR a b).1, (apartR a b).2.1⟩).2.1 ≤ (eitherR ⟨(ofR b (setP m a.length)).1, (ofR b (setP m a.length)).2.1⟩ ⟨(apartR a b).1, (apartR a b).2.1⟩).1 * (ofR a (setP m a.length)).2.1 := by
  obtain ⟨ha, hb, hl, hs⟩ := apart_ok h
  obtain ⟨od, vd⟩ := apart_has h
  obtain ⟨vp, ep, op⟩ := of_has ha (setP_among m a.length)
  obtain ⟨vq, eq, oq⟩ := of_has hb (o := setP m a.length) (by rw [← hl]; exact setP_among m a.length)
  have pa := ha.pos; have pb := hb.pos
  have M : 0 < sumL a * sumL b := Int.mul_pos (by omega) (by omega)
  have vq' := vq.scale (sumL a)
  rw [Int.mul_comm (sumL b)] at vq'
  have vs := Has.add (a := ⟨(ofR b (setP m a.length)).1, (ofR b (setP m a.length)).2.1⟩) (b := ⟨(apartR a b).1, (apartR a b).2.1⟩) vq' vd M he
  obtain ⟨_, _, os, _⟩ := either_ok he
  refine ⟨os, Has.le (vp.scale (sumL b)) vs M (by have := op.d1; simp only at this; omega) (by have := os.d1; simp only at this; omega) ?_⟩
  have := set_far a b (sumL a) (sumL b) m a.length
  omega
/-- what is mapped is no farther apart -/
theorem far_maps {to : List Int} (h : (apartR a b).2.2 = 0) (hl : to.length = a.length) (ht : ∀ x ∈ to, 0 ≤ x ∧ x < (3 : Nat)) (he : (apartR (mapTo a to 3 a.length) (mapTo b to 3 b.length)).2.2 = 0) :
    OkC ⟨(apartR (mapTo a to 3 a.length) (mapTo b to 3 b.length)).1, (apartR (mapTo a to 3 a.length) (mapTo b to 3 b.length)).2.1⟩ ∧
    (apartR (mapTo a to 3 a.length) (mapTo b to 3 b.length)).1 * (apartR a b).2.1 ≤ (apartR a b).1 * (apartR (mapTo a to 3 a.length) (mapTo b to 3 b.length)).2.1 := by
  obtain ⟨ha, hb, hl2, hs⟩ := apart_ok h
  obtain ⟨od, vd⟩ := apart_has h
  obtain ⟨om, vm⟩ := apart_has he
  obtain ⟨_, sa, la⟩ := map3_ok ha hl ht
  obtain ⟨_, sb, lb⟩ := map3_ok hb (by omega) ht
  rw [sa, sb, la] at vm
  have pa := ha.pos; have pb := hb.pos
  have M : 0 < sumL a * sumL b := Int.mul_pos (by omega) (by omega)
  refine ⟨om, Has.le vm vd M (by have := om.d1; simp only at this; omega) (by have := od.d1; simp only at this; omega) ?_⟩
  rw [← hl2]
  exact far_map ht a.length (by omega)
/-- not farther than the way over a third list -/
theorem far_third {c : List Int} (h : (apartR a b).2.2 = 0) (h1 : (apartR a c).2.2 = 0) (h2 : (apartR c b).2.2 = 0) (he : (eitherR ⟨(apartR a c).1, (apartR a c).2.1⟩ ⟨(apartR c b).1, (apartR c b).2.1⟩).2.2 = 0) :
    OkC ⟨(eitherR ⟨(apartR a c).1, (apartR a c).2.1⟩ ⟨(apartR c b).1, (apartR c b).2.1⟩).1, (eitherR ⟨(apartR a c).1, (apartR a c).2.1⟩ ⟨(apartR c b).1, (apartR c b).2.1⟩).2.1⟩ ∧
    (apartR a b).1 * (eitherR ⟨(apartR a c).1, (apartR a c).2.1⟩ ⟨(apartR c b).1, (apartR c b).2.1⟩).2.1 ≤ (eitherR ⟨(apartR a c).1, (apartR a c).2.1⟩ ⟨(apartR c b).1, (apartR c b).2.1⟩).1 * (apartR a b).2.1 := by
  obtain ⟨ha, hb, hl, hs⟩ := apart_ok h
  obtain ⟨_, hc, hl1, _⟩ := apart_ok h1
  obtain ⟨od, vd⟩ := apart_has h
  obtain ⟨o1, v1⟩ := apart_has h1
  obtain ⟨o2, v2⟩ := apart_has h2
  have pa := ha.pos; have pb := hb.pos; have pc := hc.pos
  have M : 0 < sumL a * sumL b * sumL c := Int.mul_pos (Int.mul_pos (by omega) (by omega)) (by omega)
  have v1' := v1.scale (sumL b)
  have v2' := v2.scale (sumL a)
  have vd' := vd.scale (sumL c)
  rw [show sumL a * sumL c * sumL b = sumL a * sumL b * sumL c by ac_rfl] at v1'
  rw [show sumL c * sumL b * sumL a = sumL a * sumL b * sumL c by ac_rfl] at v2'
  have vs := Has.add (a := ⟨(apartR a c).1, (apartR a c).2.1⟩) (b := ⟨(apartR c b).1, (apartR c b).2.1⟩) v1' v2' M he
  obtain ⟨_, _, os, _⟩ := either_ok he
  refine ⟨os, Has.le vd' vs M (by have := od.d1; simp only at this; omega) (by have := os.d1; simp only at this; omega) ?_⟩
  rw [← hl1]
  exact far_tri (by omega) (by omega) (by omega) a.length
end
end Go.Proofs.Ytmfbiohdmhbkoaa

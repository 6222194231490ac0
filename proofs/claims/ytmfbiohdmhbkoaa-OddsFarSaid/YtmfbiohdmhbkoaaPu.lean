/- Plain: outcomes if a case is chosen first. -/
import Derived.Test.YtmfbiohdmhbkoaaPr
namespace Go.Proofs.Ytmfbiohdmhbkoaa

theorem getD_at (l : List Int) {i : Nat} (h : i < l.length) : l.getD i 0 = l[i] := by simp [h]
theorem getD_out (l : List Int) {i : Nat} (h : l.length ≤ i) : l.getD i 0 = 0 := by simp [h]
/-- the sum of f over the numbers below n that are visited -/
def sumV (f : Nat → Int) (vis : Nat → Bool) : Nat → Int
  | 0 => 0
  | n + 1 => sumV f vis n + if vis n then f n else 0
theorem sumV_nn {f : Nat → Int} {vis : Nat → Bool} : ∀ {n : Nat}, (∀ i, i < n → 0 ≤ f i) → 0 ≤ sumV f vis n
  | 0, _ => Int.le_refl _
  | n + 1, h => by
    have := sumV_nn (vis := vis) (n := n) fun i hi => h i (by omega)
    have := h n (by omega)
    simp only [sumV]; split <;> omega
theorem sumV_mono {f : Nat → Int} {vis vis' : Nat → Bool} : ∀ {n : Nat}, (∀ i, i < n → 0 ≤ f i) → (∀ i, i < n → vis i = true → vis' i = true) → sumV f vis n ≤ sumV f vis' n
  | 0, _, _ => Int.le_refl _
  | n + 1, h, hv => by
    have h1 := sumV_mono (vis := vis) (vis' := vis') (n := n) (fun i hi => h i (by omega)) fun i hi => hv i (by omega)
    have h2 := h n (by omega)
    have h3 := hv n (by omega)
    simp only [sumV]
    by_cases a : vis n = true
    · rw [if_pos a, if_pos (h3 a)]; omega
    · rw [if_neg a]; split <;> omega
theorem sumV_congr {f g : Nat → Int} {vis vis' : Nat → Bool} : ∀ {n : Nat}, (∀ i, i < n → (vis i = vis' i ∧ f i = g i) ∨ (f i = 0 ∧ g i = 0)) → sumV f vis n = sumV g vis' n
  | 0, _ => rfl
  | n + 1, h => by
    have h1 := sumV_congr (f := f) (g := g) (vis := vis) (vis' := vis') (n := n) fun i hi => h i (by omega)
    simp only [sumV, h1]
    rcases h n (by omega) with ⟨a, b⟩ | ⟨a, b⟩
    · rw [a, b]
    · rw [a, b]; simp
theorem sumV_add {f : Nat → Int} {vis : Nat → Bool} {i : Nat} (hv : vis i = false) : ∀ {n : Nat}, i < n → sumV f (fun j => vis j || j == i) n = sumV f vis n + f i
  | 0, h => by omega
  | n + 1, h => by
    simp only [sumV]
    by_cases e : n = i
    · subst e
      have : sumV f (fun j => vis j || j == n) n = sumV f vis n := sumV_congr fun j hj => .inl ⟨by simp; omega, rfl⟩
      simp only [this, hv]; simp
    · rw [sumV_add hv (n := n) (by omega)]
      have : (vis n || n == i) = vis n := by simp [e]
      simp only [this]; omega
theorem sumV_le {f : Nat → Int} {vis : Nat → Bool} {i : Nat} : ∀ {n : Nat}, (∀ j, j < n → 0 ≤ f j) → i < n → vis i = true → f i ≤ sumV f vis n
  | 0, _, h, _ => by omega
  | n + 1, h, hi, hv => by
    simp only [sumV]
    have h0 := sumV_nn (vis := vis) (n := n) fun j hj => h j (by omega)
    by_cases e : n = i
    · subst e; rw [if_pos hv]; omega
    · have := sumV_le (vis := vis) (i := i) (n := n) (fun j hj => h j (by omega)) (by omega) hv
      have := h n (by omega)
      split <;> omega
/-- the common multiple of the sums of the lists that can be chosen, so far -/
def comTo (c : List Int) (ls : List (List Int)) : Nat → Option Int
  | 0 => some 1
  | k + 1 => match comTo c ls k with
    | none => none
    | some m => if c.getD k 0 = 0 then some m else
      if m * (sumL (lowL (ls.getD k [])) / gI m (sumL (lowL (ls.getD k [])))) ≤ 1000000000000000 then some (m * (sumL (lowL (ls.getD k [])) / gI m (sumL (lowL (ls.getD k []))))) else none
/-- the part of list i in outcome j -/
def mixT (c : List Int) (ls : List (List Int)) (m : Int) (j i : Nat) : Int :=
  if c.getD i 0 = 0 then 0 else (lowL (ls.getD i [])).getD j 0 * (c.getD i 0 * (m / sumL (lowL (ls.getD i []))))
/-- the weights, by the lists that are visited -/
def mixO (c : List Int) (ls : List (List Int)) (m : Int) (len : Nat) (vis : Nat → Bool) : List Int := (List.range len).map fun j => sumV (mixT c ls m j) vis ls.length
def mixR (cs : List Int) (ls : List (List Int)) (el : Int) : List Int × Int :=
  if errW cs ≠ 0 then ([], errW cs) else if ls.length ≠ cs.length then ([], 2) else if el ≠ 0 then ([], el) else if ls.any (fun l => l.length != (ls.getD 0 []).length) then ([], 2)
  else match comTo (lowL cs) ls ls.length with
    | none => ([], 10)
    | some m => if 1000000000000000 < sumL (lowL cs) * m then ([], 10) else (lowL (mixO (lowL cs) ls m (ls.getD 0 []).length (fun _ => true)), 0)
/-- what holds of all lists -/
structure MixOk (c : List Int) (ls : List (List Int)) (len : Nat) : Prop where
  ll : ls.length = c.length
  cn : ∀ x ∈ c, 0 ≤ x
  ok : ∀ i, i < ls.length → OkW (ls.getD i [])
  eq : ∀ i, i < ls.length → (ls.getD i []).length = len
theorem MixOk.t {c : List Int} {ls : List (List Int)} {len : Nat} (h : MixOk c ls len) {i : Nat} (hi : i < ls.length) : 1 ≤ sumL (lowL (ls.getD i [])) ∧ sumL (lowL (ls.getD i [])) ≤ 1000000000000000 :=
  ⟨(low_ok (h.ok i hi)).pos, (low_ok (h.ok i hi)).le⟩
theorem com_step {m t : Int} (hm : 1 ≤ m) (ht : 1 ≤ t) : 1 ≤ t / gI m t ∧ t / gI m t ≤ t ∧ m ∣ m * (t / gI m t) ∧ t ∣ m * (t / gI m t) ∧ 1 ≤ m * (t / gI m t) := by
  have g0 : 0 < gI m t := gI_pos (.inl (by omega))
  have g1 := gI_le_right m (show 0 < t by omega)
  have h1 : 1 ≤ t / gI m t := Int.le_ediv_of_mul_le g0 (by omega)
  refine ⟨h1, Int.ediv_le_self _ (by omega), Int.dvd_mul_right _ _, ?_, ?_⟩
  · obtain ⟨a, ha⟩ := gI_dvd_left (b := t) (show 0 ≤ m by omega)
    have e : t / gI m t * gI m t = t := Int.ediv_mul_cancel (gI_dvd_right (by omega))
    refine ⟨a, ?_⟩
    have h3 : t * a = t / gI m t * (gI m t * a) := by rw [← Int.mul_assoc, e]
    rw [h3, ← ha, Int.mul_comm]
  · have := Int.mul_le_mul hm h1 (by omega) (by omega); omega
theorem comTo_ok {c : List Int} {ls : List (List Int)} {len : Nat} (h : MixOk c ls len) : ∀ k, k ≤ ls.length → ∀ m, comTo c ls k = some m → 1 ≤ m ∧ m ≤ 1000000000000000 ∧ ∀ i, i < k → c.getD i 0 ≠ 0 → sumL (lowL (ls.getD i [])) ∣ m
  | 0, _, m, e => by simp [comTo] at e; subst e; exact ⟨by omega, by omega, fun i hi => by omega⟩
  | k + 1, hk, m, e => by
    simp only [comTo] at e
    cases hp : comTo c ls k with
    | none => rw [hp] at e; cases e
    | some m' =>
      rw [hp] at e
      obtain ⟨h1, h2, h3⟩ := comTo_ok h k (by omega) m' hp
      by_cases hc : c.getD k 0 = 0
      · simp only [if_pos hc] at e
        cases e
        exact ⟨h1, h2, fun i hi hne => h3 i (by rcases Nat.lt_succ_iff_lt_or_eq.1 hi with x | x; exact x; subst x; exact absurd hc hne) hne⟩
      · simp only [if_neg hc] at e
        obtain ⟨t1, t2⟩ := h.t (i := k) (by omega)
        obtain ⟨a1, a2, a3, a4, a5⟩ := com_step h1 t1
        by_cases hb : m' * (sumL (lowL (ls.getD k [])) / gI m' (sumL (lowL (ls.getD k [])))) ≤ 1000000000000000
        · rw [if_pos hb] at e
          cases e
          refine ⟨a5, hb, fun i hi hne => ?_⟩
          rcases Nat.lt_succ_iff_lt_or_eq.1 hi with x | x
          · exact Int.dvd_trans (h3 i x hne) a3
          · subst x; exact a4
        · rw [if_neg hb] at e; cases e
theorem comTo_none {c : List Int} {ls : List (List Int)} {k : Nat} (h : comTo c ls k = none) : ∀ n, k ≤ n → comTo c ls n = none
  | 0, hn => by have : k = 0 := by omega
                rw [this] at h; exact h
  | n + 1, hn => by
    rcases Nat.lt_succ_iff_lt_or_eq.1 (Nat.lt_succ_of_le hn) with x | x
    · simp only [comTo, comTo_none h n (by omega)]
    · rw [← x]; exact h
section
variable {c : List Int} {ls : List (List Int)} {len : Nat} {m : Int}
theorem mixT_nn (h : MixOk c ls len) (hm : 1 ≤ m) {j i : Nat} (hi : i < ls.length) : 0 ≤ mixT c ls m j i := by
  unfold mixT
  split
  · exact Int.le_refl _
  · have h1 : 0 ≤ (lowL (ls.getD i [])).getD j 0 := by
      by_cases hj : j < (lowL (ls.getD i [])).length
      · have := low_nn (h.ok i hi) _ (List.getElem_mem hj); rw [getD_at _ hj]; exact this
      · rw [getD_out _ (Nat.not_lt.1 hj)]; exact Int.le_refl _
    have h2 : 0 ≤ c.getD i 0 := by
      by_cases hj : i < c.length
      · have := h.cn _ (List.getElem_mem hj); rw [getD_at _ hj]; exact this
      · rw [getD_out _ (Nat.not_lt.1 hj)]; exact Int.le_refl _
    have t := (h.t hi).1
    exact Int.mul_nonneg h1 (Int.mul_nonneg h2 (Int.ediv_nonneg (by omega) (by omega)))
theorem sumL_mulr (k : Int) : ∀ l : List Int, sumL (l.map fun x => x * k) = sumL l * k
  | [] => by simp [sumL]
  | x :: l => by rw [List.map_cons, sumL_cons, sumL_cons, Int.add_mul, sumL_mulr k l]
theorem map_range_getD (l : List Int) (f : Int → Int) {n : Nat} (h : l.length = n) : (List.range n).map (fun j => f (l.getD j 0)) = l.map f := by
  apply List.ext_getElem
  · simp [h]
  · intro i h1 h2
    simp at h1 h2
    simp [h2]
/-- all outcomes of list i together -/
theorem mixT_sum (h : MixOk c ls len) {i : Nat} (hi : i < ls.length) (hd : c.getD i 0 ≠ 0 → sumL (lowL (ls.getD i [])) ∣ m) : sumL ((List.range len).map fun j => mixT c ls m j i) = c.getD i 0 * m := by
  unfold mixT
  by_cases hc : c.getD i 0 = 0
  · simp only [if_pos hc]
    rw [hc, Int.zero_mul]
    have : ∀ n, sumL ((List.range n).map fun _ => (0 : Int)) = 0 := fun n => by
      induction n with
      | zero => rfl
      | succ n ih => rw [List.range_succ, List.map_append, sumL_append, ih]; rfl
    exact this len
  · simp only [if_neg hc]
    have e : (lowL (ls.getD i [])).length = len := by rw [lowL_len]; exact h.eq i hi
    rw [map_range_getD (lowL (ls.getD i [])) (fun x => x * (c.getD i 0 * (m / sumL (lowL (ls.getD i []))))) e, sumL_mulr]
    obtain ⟨a, rfl⟩ := hd hc
    have t := (h.t hi).1
    rw [Int.mul_ediv_cancel_left _ (by omega)]
    ac_rfl
theorem sumL_map_add (f g : Nat → Int) : ∀ l : List Nat, sumL (l.map fun j => f j + g j) = sumL (l.map f) + sumL (l.map g)
  | [] => rfl
  | x :: l => by rw [List.map_cons, List.map_cons, List.map_cons, sumL_cons, sumL_cons, sumL_cons, sumL_map_add f g l]; omega
theorem sumL_swap (f : Nat → Nat → Int) (vis : Nat → Bool) (l : List Nat) : ∀ n, sumL (l.map fun j => sumV (f j) vis n) = sumV (fun i => sumL (l.map fun j => f j i)) vis n
  | 0 => by
    simp only [sumV]
    induction l with
    | nil => rfl
    | cons x l ih => rw [List.map_cons, sumL_cons, ih]; rfl
  | n + 1 => by
    simp only [sumV]
    rw [sumL_map_add, sumL_swap f vis l n]
    congr 1
    by_cases hv : vis n = true
    · simp only [if_pos hv]
    · simp only [if_neg hv]
      induction l with
      | nil => rfl
      | cons x l ih => rw [List.map_cons, sumL_cons, ih]; rfl
theorem sumV_all (l : List Int) (k : Int) : ∀ n, n ≤ l.length → sumV (fun i => l.getD i 0 * k) (fun _ => true) n = sumL (l.take n) * k
  | 0, _ => by simp [sumV, sumL]
  | n + 1, h => by
    simp only [sumV, if_true]
    rw [sumV_all l k n (by omega), sumL_take l n (by omega), Int.add_mul]
    congr 2
    simp [show n < l.length by omega]
theorem mixO_sum (h : MixOk c ls len) (hd : ∀ i, i < ls.length → c.getD i 0 ≠ 0 → sumL (lowL (ls.getD i [])) ∣ m) : sumL (mixO c ls m len (fun _ => true)) = sumL c * m := by
  unfold mixO
  rw [sumL_swap]
  rw [sumV_congr (g := fun i => c.getD i 0 * m) (vis' := fun _ => true) fun i hi => .inl ⟨rfl, mixT_sum h hi (hd i hi)⟩]
  rw [sumV_all c m _ (by rw [h.ll]; omega), h.ll, List.take_length]
theorem mixO_len (vis : Nat → Bool) : (mixO c ls m len vis).length = len := by simp [mixO]
theorem mixO_get (vis : Nat → Bool) {j : Nat} (hj : j < len) : (mixO c ls m len vis)[j]'(by rw [mixO_len]; exact hj) = sumV (mixT c ls m j) vis ls.length := by simp [mixO]
theorem mixO_nn (h : MixOk c ls len) (hm : 1 ≤ m) (vis : Nat → Bool) : ∀ x ∈ mixO c ls m len vis, 0 ≤ x := fun x hx => by
  obtain ⟨j, hj, rfl⟩ := List.mem_map.1 hx
  exact sumV_nn fun i hi => mixT_nn h hm hi
/-- no number on the way is too great -/
theorem mixO_bd (h : MixOk c ls len) (hm : 1 ≤ m) (hd : ∀ i, i < ls.length → c.getD i 0 ≠ 0 → sumL (lowL (ls.getD i [])) ∣ m) (hb : sumL c * m ≤ 1000000000000000) (vis : Nat → Bool) {j : Nat} (hj : j < len) :
    0 ≤ sumV (mixT c ls m j) vis ls.length ∧ sumV (mixT c ls m j) vis ls.length ≤ 1000000000000000 := by
  refine ⟨sumV_nn fun i hi => mixT_nn h hm hi, ?_⟩
  have h1 := sumV_mono (f := mixT c ls m j) (vis := vis) (vis' := fun _ => true) (n := ls.length) (fun i hi => mixT_nn h hm hi) fun _ _ _ => rfl
  have h2 := le_sumL (mixO_nn h hm (fun _ => true)) (k := j) (by rw [mixO_len]; exact hj)
  rw [mixO_get _ hj, mixO_sum h hd] at h2
  omega
theorem mixT_bd (h : MixOk c ls len) (hm : 1 ≤ m) (hd : ∀ i, i < ls.length → c.getD i 0 ≠ 0 → sumL (lowL (ls.getD i [])) ∣ m) (hb : sumL c * m ≤ 1000000000000000) {j i : Nat} (hj : j < len) (hi : i < ls.length) :
    0 ≤ mixT c ls m j i ∧ mixT c ls m j i ≤ 1000000000000000 := by
  have h1 := mixO_bd h hm hd hb (fun _ => true) hj
  have h2 := sumV_le (f := mixT c ls m j) (vis := fun _ => true) (n := ls.length) (fun i hi => mixT_nn h hm hi) hi rfl
  exact ⟨mixT_nn h hm hi, by omega⟩
end
end Go.Proofs.Ytmfbiohdmhbkoaa

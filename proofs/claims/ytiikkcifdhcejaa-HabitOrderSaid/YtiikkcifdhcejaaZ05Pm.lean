/- Plain: keep, Of, Given; Fair. -/
import Derived.Test.YtiikkcifdhcejaaZ01Cls
namespace Go.Proofs.Ytiikkcifdhcejaa

/-- the weights of some outcomes, with 0 for all others -/
def keepF (w : List Int) (acc : List Int) (o : List Int) : List Int := o.foldl (fun a k => a.set k.toNat (w.getD k.toNat 0)) acc
def keepL (w o : List Int) : List Int := keepF w (List.replicate w.length 0) o
theorem keepF_snoc (w acc o : List Int) (k : Int) : keepF w acc (o ++ [k]) = (keepF w acc o).set k.toNat (w.getD k.toNat 0) := by simp [keepF]
theorem keepF_len (w : List Int) : ∀ (o acc : List Int), (keepF w acc o).length = acc.length
  | [], _ => rfl
  | k :: o, acc => by
    have := keepF_len w o (acc.set k.toNat (w.getD k.toNat 0))
    simpa [keepF] using this
theorem keepL_len (w o : List Int) : (keepL w o).length = w.length := by simp [keepL, keepF_len]
theorem keepF_mem (w : List Int) : ∀ (o acc : List Int) (j : Nat), (∀ k ∈ o, 0 ≤ k) → (keepF w acc o)[j]? = if j < acc.length ∧ (j : Int) ∈ o then some (w.getD j 0) else acc[j]?
  | [], acc, j, _ => by simp [keepF]
  | k :: o, acc, j, h => by
    have ih := keepF_mem w o (acc.set k.toNat (w.getD k.toNat 0)) j fun x hx => h x (by simp [hx])
    have hk := h k (by simp)
    show (keepF w (acc.set k.toNat (w.getD k.toNat 0)) o)[j]? = _
    rw [ih, List.length_set]
    by_cases h1 : j < acc.length
    · by_cases h2 : (j : Int) ∈ o
      · rw [if_pos ⟨h1, h2⟩, if_pos ⟨h1, by simp [h2]⟩]
      · rw [if_neg (by simp [h2])]
        by_cases h3 : k.toNat = j
        · have : (j : Int) = k := by omega
          rw [if_pos ⟨h1, by simp [this]⟩, h3, List.getElem?_set_self h1]
        · have : (j : Int) ≠ k := by omega
          rw [if_neg (by simp [h2, this]), List.getElem?_set_ne h3]
    · rw [if_neg (by omega), if_neg (by omega), List.getElem?_eq_none (by simp; omega), List.getElem?_eq_none (by omega)]
theorem amongF_spec : ∀ (l : List Int) (n next : Int), amongF n next l = true → (∀ k ∈ l, next ≤ k ∧ k < n)
  | [], _, _, _, k, hk => by cases hk
  | x :: l, n, next, h, k, hk => by
    simp only [amongF, Bool.and_eq_true, decide_eq_true_eq] at h
    rcases List.mem_cons.1 hk with rfl | hk
    · exact h.1
    · have := amongF_spec l n (x + 1) h.2 k hk
      omega
theorem among_spec {l : List Int} {n : Int} (h : amongB l n = true) : ∀ k ∈ l, 0 ≤ k ∧ k < n := amongF_spec l n 0 h
/-- what keep leaves is no more than there was -/
theorem keepL_get {w o : List Int} (h : amongB o w.length = true) {j : Nat} (hj : j < w.length) : (keepL w o)[j]? = some (if (j : Int) ∈ o then w[j] else 0) := by
  unfold keepL
  rw [keepF_mem w o _ j (fun k hk => (among_spec h k hk).1)]
  by_cases h1 : (j : Int) ∈ o
  · rw [if_pos ⟨by simpa using hj, h1⟩, if_pos h1]; simp [hj]
  · rw [if_neg (by simp [h1]), if_neg h1]; simp [hj]
theorem keepL_nn {w o : List Int} (ok : OkW w) (h : amongB o w.length = true) : ∀ x ∈ keepL w o, 0 ≤ x := fun x hx => by
  obtain ⟨j, hj, rfl⟩ := List.mem_iff_getElem.1 hx
  have hj' : j < w.length := by rw [keepL_len] at hj; exact hj
  have := keepL_get h hj'
  rw [List.getElem?_eq_getElem hj] at this
  injection this with this
  rw [this]
  split
  · exact (ok.at_ hj').1
  · omega
theorem sumL_mono : ∀ {a b : List Int}, a.length = b.length → (∀ j (h : j < a.length) (h' : j < b.length), a[j] ≤ b[j]) → sumL a ≤ sumL b
  | [], [], _, _ => Int.le_refl _
  | x :: a, y :: b, hl, h => by
    have h0 := h 0 (by simp) (by simp)
    have ih := sumL_mono (a := a) (b := b) (by simpa using hl) fun j h1 h2 => by
      have := h (j + 1) (by simpa using h1) (by simpa using h2); simpa using this
    rw [sumL_cons, sumL_cons]
    simp at h0
    omega
theorem keepL_le {w o : List Int} (ok : OkW w) (h : amongB o w.length = true) : sumL (keepL w o) ≤ sumL w := by
  refine sumL_mono (keepL_len w o) fun j h1 h2 => ?_
  have := keepL_get h h2
  rw [List.getElem?_eq_getElem h1] at this
  injection this with this
  rw [this]
  split
  · exact Int.le_refl _
  · exact (ok.at_ h2).1
/-- Of: numerator, denominator, error -/
def ofR (w o : List Int) : Int × Int × Int :=
  if errW w = 0 then if amongB o w.length then (ratN (sumL (keepL w o)) (sumL w), ratD (sumL (keepL w o)) (sumL w), 0) else (0, 0, 2) else (0, 0, errW w)
def keepR (w o : List Int) : List Int × Int := if errW w = 0 then if amongB o w.length then (keepL w o, 0) else ([], 2) else ([], errW w)
def givenR (w o : List Int) : List Int × Int :=
  if errW w = 0 then if amongB o w.length then if sumL (keepL w o) = 0 then ([], 7) else (keepL w o, 0) else ([], 2) else ([], errW w)
/-- Fair: what is decided of a size and a value, throw by throw -/
def fairGo (s b : Int) : List Int → Int → Int → Int → Int × Int × Int
  | [], size, value, used => if value < size - size % b then (value % b, used, 0) else (0, 0, 7)
  | t :: l, size, value, used => if value < size - size % b then (value % b, used, 0) else fairGo s b l (size % b * s) ((value - (size - size % b)) * s + t) (used + 1)
def fairR (s b : Int) (l : List Int) : Int × Int × Int :=
  if s < 2 ∨ 1000000 < s ∨ b < 1 ∨ 1000000 < b then (0, 0, 3) else if 10000 < l.length then (0, 0, 5) else if l.any (fun n => decide (n < 0) || decide (s ≤ n)) then (0, 0, 2) else fairGo s b l 1 0 0
theorem fairGo_yes {s b : Int} {l : List Int} {size value used : Int} (h : value < size - size % b) : fairGo s b l size value used = (value % b, used, 0) := by
  cases l <;> simp only [fairGo, if_pos h]
theorem fairGo_nil {s b : Int} {size value used : Int} (h : ¬ value < size - size % b) : fairGo s b [] size value used = (0, 0, 7) := by simp only [fairGo, if_neg h]
theorem fairGo_cons {s b t : Int} {l : List Int} {size value used : Int} (h : ¬ value < size - size % b) :
    fairGo s b (t :: l) size value used = fairGo s b l (size % b * s) ((value - (size - size % b)) * s + t) (used + 1) := by simp only [fairGo, if_neg h]
/-- the keeper of sizes: what holds of a size and a value before each throw -/
theorem fair_step {s b t size value : Int} (hb : 1 ≤ b) (hb' : b ≤ 1000000) (hs : 2 ≤ s) (hs' : s ≤ 1000000) (_h0 : 0 ≤ value) (h1 : value < size) (hn : ¬ value < size - size % b) (ht : 0 ≤ t) (ht' : t < s) :
    0 ≤ (value - (size - size % b)) * s + t ∧ (value - (size - size % b)) * s + t < size % b * s ∧ size % b * s ≤ 1000000000000 ∧ 0 ≤ size % b ∧ size % b < b ∧ 0 ≤ value - (size - size % b) ∧ value - (size - size % b) < size % b := by
  have m0 := Int.emod_nonneg size (show b ≠ 0 by omega)
  have m1 := Int.emod_lt_of_pos size (show 0 < b by omega)
  obtain ⟨r, hr⟩ : ∃ r, r = size % b := ⟨_, rfl⟩
  obtain ⟨v, hv⟩ : ∃ v, v = value - (size - size % b) := ⟨_, rfl⟩
  rw [← hv, ← hr]
  rw [← hr] at m0 m1 hn hv
  have v0 : 0 ≤ v := by omega
  have v1 : v + 1 ≤ r := by omega
  have p0 : 0 ≤ v * s := Int.mul_nonneg v0 (by omega)
  have p1 : (v + 1) * s ≤ r * s := Int.mul_le_mul_of_nonneg_right v1 (by omega)
  have p2 : r * s ≤ 1000000 * s := Int.mul_le_mul_of_nonneg_right (by omega) (by omega)
  rw [Int.add_mul, Int.one_mul] at p1
  refine ⟨by omega, by omega, by omega, m0, m1, v0, by omega⟩
end Go.Proofs.Ytiikkcifdhcejaa
namespace Go.Proofs.Ytiikkcifdhcejaa

/-- the value of a list at a base -/
def ev (B : Int) : List Int → Int
  | [] => 0
  | x :: l => x + B * ev B l
/-- a number is added to a place -/
def bump (l : List Int) (k : Nat) (x : Int) : List Int := l.set k (l.getD k 0 + x)
theorem bump_len (l : List Int) (k : Nat) (x : Int) : (bump l k x).length = l.length := by simp [bump]
theorem ev_one : ∀ l, ev 1 l = sumL l
  | [] => rfl
  | x :: l => by rw [sumL_cons, ← ev_one l]; simp [ev]
theorem ev_bump (B : Int) : ∀ (l : List Int) (k : Nat) (x : Int), k < l.length → ev B (bump l k x) = ev B l + x * B ^ k
  | [], k, x, h => by cases h
  | y :: l, 0, x, _ => by simp [bump, ev]; omega
  | y :: l, k + 1, x, h => by
    have ih := ev_bump B l k x (by simpa using h)
    have e : bump (y :: l) (k + 1) x = y :: bump l k x := by simp [bump]
    rw [e]
    simp only [ev, ih, Int.pow_succ]
    rw [Int.mul_add]
    have : B * (x * B ^ k) = x * (B ^ k * B) := by rw [Int.mul_left_comm, Int.mul_comm B]
    rw [this]; omega
theorem bump_nn {l : List Int} {k : Nat} {x : Int} (h : ∀ y ∈ l, 0 ≤ y) (hx : 0 ≤ x) : ∀ y ∈ bump l k x, 0 ≤ y := fun y hy => by
  rcases List.mem_or_eq_of_mem_set hy with h1 | h1
  · exact h y h1
  · rw [h1]
    have : 0 ≤ l.getD k 0 := by
      by_cases hk : k < l.length
      · have := h _ (List.getElem_mem hk); simp [hk]; exact this
      · simp [Nat.not_lt.1 hk]
    omega
theorem ev_nn {B : Int} (hB : 0 ≤ B) : ∀ {l : List Int}, (∀ y ∈ l, 0 ≤ y) → 0 ≤ ev B l
  | [], _ => Int.le_refl _
  | x :: l, h => by
    have h1 := ev_nn hB (l := l) fun y hy => h y (by simp [hy])
    have h2 := Int.mul_nonneg hB h1
    have := h x (by simp)
    simp only [ev]; omega
theorem ev_take (B : Int) : ∀ (l : List Int) (k : Nat) (h : k < l.length), ev B (l.take (k + 1)) = ev B (l.take k) + l[k] * B ^ k
  | x :: l, 0, _ => by simp [ev]
  | x :: l, k + 1, h => by
    have ih := ev_take B l k (by simpa using h)
    simp only [List.take_succ_cons, ev, ih, List.getElem_cons_succ, Int.pow_succ]
    rw [Int.mul_add]
    have : B * (l[k]'(by simpa using h) * B ^ k) = l[k]'(by simpa using h) * (B ^ k * B) := by rw [Int.mul_left_comm, Int.mul_comm B]
    rw [this]; omega
/-- a list of digits is known by its value -/
theorem ev_inj {B : Int} (hB : 0 < B) : ∀ {a b : List Int}, a.length = b.length → (∀ y ∈ a, 0 ≤ y ∧ y < B) → (∀ y ∈ b, 0 ≤ y ∧ y < B) → ev B a = ev B b → a = b
  | [], [], _, _, _, _ => rfl
  | x :: a, y :: b, hl, ha, hb, he => by
    simp only [ev] at he
    have hx := ha x (by simp); have hy := hb y (by simp)
    have e1 : (x + B * ev B a) % B = x := by rw [Int.add_mul_emod_self_left, Int.emod_eq_of_lt hx.1 hx.2]
    have e2 : (y + B * ev B b) % B = y := by rw [Int.add_mul_emod_self_left, Int.emod_eq_of_lt hy.1 hy.2]
    have hxy : x = y := by rw [← e1, he, e2]
    subst hxy
    have h3 : B * ev B a = B * ev B b := by omega
    have h4 : ev B a = ev B b := Int.eq_of_mul_eq_mul_left (by omega) h3
    rw [ev_inj hB (by simpa using hl) (fun y hy => ha y (by simp [hy])) (fun y hy => hb y (by simp [hy])) h4]
/-- a row of a product: the first j terms are added from place i on -/
def rowTo (acc : List Int) (x : Int) (b : List Int) (i : Nat) : Nat → List Int
  | 0 => acc
  | j + 1 => bump (rowTo acc x b i j) (i + j) (x * b.getD j 0)
def convTo (a b : List Int) : Nat → List Int
  | 0 => List.replicate (a.length + b.length - 1) 0
  | i + 1 => rowTo (convTo a b i) (a.getD i 0) b i b.length
/-- the weights of a sum of two outcomes -/
def conv (a b : List Int) : List Int := convTo a b a.length
theorem rowTo_len (acc : List Int) (x : Int) (b : List Int) (i : Nat) : ∀ j, (rowTo acc x b i j).length = acc.length
  | 0 => rfl
  | j + 1 => by simp only [rowTo, bump_len, rowTo_len acc x b i j]
theorem convTo_len (a b : List Int) : ∀ i, (convTo a b i).length = a.length + b.length - 1
  | 0 => by simp [convTo]
  | i + 1 => by simp only [convTo, rowTo_len, convTo_len a b i]
theorem conv_len (a b : List Int) : (conv a b).length = a.length + b.length - 1 := convTo_len a b _
theorem ev_rowTo (B : Int) (acc : List Int) (x : Int) (b : List Int) (i : Nat) : ∀ j, j ≤ b.length → i + b.length ≤ acc.length → ev B (rowTo acc x b i j) = ev B acc + x * B ^ i * ev B (b.take j)
  | 0, _, _ => by simp [rowTo, ev]
  | j + 1, hj, hi => by
    have ih := ev_rowTo B acc x b i j (by omega) hi
    simp only [rowTo]
    rw [ev_bump B _ _ _ (by rw [rowTo_len]; omega), ih, ev_take B b j (by omega), Int.mul_add, Int.pow_add]
    have e : b.getD j 0 = b[j]'(by omega) := by simp [show j < b.length by omega]
    rw [e]
    have : x * b[j]'(by omega) * (B ^ i * B ^ j) = x * B ^ i * (b[j]'(by omega) * B ^ j) := by
      rw [Int.mul_assoc, Int.mul_assoc, Int.mul_left_comm (b[j]'(by omega)) (B ^ i)]
    rw [this]; omega
theorem ev_convTo (B : Int) (a b : List Int) (hb : 0 < b.length) : ∀ i, i ≤ a.length → ev B (convTo a b i) = ev B (a.take i) * ev B b
  | 0, _ => by
    have : ∀ n, ev B (List.replicate n 0) = 0 := fun n => by
      induction n with
      | zero => rfl
      | succ n ih => simp [List.replicate_succ, ev, ih]
    simp [convTo, this, ev]
  | i + 1, hi => by
    have ih := ev_convTo B a b hb i (by omega)
    simp only [convTo]
    rw [ev_rowTo B _ _ b i _ (Nat.le_refl _) (by rw [convTo_len]; omega), ih, ev_take B a i (by omega), List.take_length, Int.add_mul]
    have e : a.getD i 0 = a[i]'(by omega) := by simp [show i < a.length by omega]
    rw [e]
theorem ev_conv (B : Int) (a b : List Int) (hb : 0 < b.length) : ev B (conv a b) = ev B a * ev B b := by
  rw [conv, ev_convTo B a b hb _ (Nat.le_refl _), List.take_length]
theorem sumL_conv (a b : List Int) (hb : 0 < b.length) : sumL (conv a b) = sumL a * sumL b := by rw [← ev_one, ← ev_one, ← ev_one, ev_conv 1 a b hb]
theorem rowTo_nn {acc : List Int} {x : Int} {b : List Int} {i : Nat} (h : ∀ y ∈ acc, 0 ≤ y) (hx : 0 ≤ x) (hb : ∀ y ∈ b, 0 ≤ y) : ∀ j, ∀ y ∈ rowTo acc x b i j, 0 ≤ y
  | 0 => h
  | j + 1 => bump_nn (rowTo_nn h hx hb j) (Int.mul_nonneg hx (by
      by_cases hk : j < b.length
      · have := hb _ (List.getElem_mem hk); simp [hk]; exact this
      · simp [Nat.not_lt.1 hk]))
theorem convTo_nn {a b : List Int} (ha : ∀ y ∈ a, 0 ≤ y) (hb : ∀ y ∈ b, 0 ≤ y) : ∀ i, ∀ y ∈ convTo a b i, 0 ≤ y
  | 0 => fun y hy => by simp [convTo] at hy; omega
  | i + 1 => rowTo_nn (convTo_nn ha hb i) (by
      by_cases hk : i < a.length
      · have := ha _ (List.getElem_mem hk); simp [hk]; exact this
      · simp [Nat.not_lt.1 hk]) hb _
theorem conv_nn {a b : List Int} (ha : ∀ y ∈ a, 0 ≤ y) (hb : ∀ y ∈ b, 0 ≤ y) : ∀ y ∈ conv a b, 0 ≤ y := convTo_nn ha hb _
/-- what stands while a product is added up is no more than the product of the sums -/
theorem row_bd {a b : List Int} (ha : ∀ y ∈ a, 0 ≤ y) (hb : ∀ y ∈ b, 0 ≤ y) (hbl : 0 < b.length) {i j : Nat} (hi : i < a.length) (hj : j ≤ b.length) :
    sumL (rowTo (convTo a b i) (a.getD i 0) b i j) ≤ sumL a * sumL b := by
  have e1 : a.getD i 0 = a[i] := by simp [hi]
  rw [← ev_one, ev_rowTo 1 _ _ b i j hj (by rw [convTo_len]; omega), ev_convTo 1 a b hbl i (by omega), ev_one, ev_one, ev_one, e1]
  have h1 := sumL_take_le hb j
  have h2 := sumL_take a i hi
  have h3 := sumL_take_le ha (i + 1)
  have h4 := ha _ (List.getElem_mem hi)
  have h5 := sumL_nonneg hb
  have h6 : a[i] * 1 ^ i * sumL (b.take j) ≤ a[i] * sumL b := by
    rw [Int.one_pow, Int.mul_one]; exact Int.mul_le_mul_of_nonneg_left h1.2 h4
  have h7 : sumL (a.take (i + 1)) * sumL b ≤ sumL a * sumL b := Int.mul_le_mul_of_nonneg_right h3.2 h5
  rw [h2, Int.add_mul] at h7
  omega
theorem fitsPair {a b : List Int} (ha : ∀ y ∈ a, 0 ≤ y) (hb : ∀ y ∈ b, 0 ≤ y) (h : sumL a * sumL b ≤ 1000000000000000) : ∀ x ∈ a, ∀ y ∈ b, 0 ≤ x * y ∧ x * y ≤ 1000000000000000 := fun x hx y hy => by
  have hx0 := ha x hx; have hy0 := hb y hy
  have h1 : x ≤ sumL a := by obtain ⟨k, hk, rfl⟩ := List.mem_iff_getElem.1 hx; exact le_sumL ha hk
  have h2 : y ≤ sumL b := by obtain ⟨k, hk, rfl⟩ := List.mem_iff_getElem.1 hy; exact le_sumL hb hk
  have h3 := Int.mul_le_mul h1 h2 hy0 (by omega)
  exact ⟨Int.mul_nonneg hx0 hy0, by omega⟩
/-- the error of a pair with so many outcomes -/
def fitsW (a b : List Int) (many : Int) : Int :=
  if errW a ≠ 0 then errW a else if errW b ≠ 0 then errW b else if 4096 < many then 5 else if sumL a * sumL b ≤ 1000000000000000 then 0 else 10
theorem fitsW_zero {a b : List Int} {m : Int} : fitsW a b m = 0 ↔ OkW a ∧ OkW b ∧ m ≤ 4096 ∧ sumL a * sumL b ≤ 1000000000000000 := by
  unfold fitsW
  by_cases h1 : errW a = 0
  · by_cases h2 : errW b = 0
    · rw [if_neg (by simpa using h1), if_neg (by simpa using h2)]
      have o1 := errW_zero.1 h1; have o2 := errW_zero.1 h2
      by_cases h3 : 4096 < m
      · rw [if_pos h3]; constructor
        · intro h; cases h
        · intro h; have := h.2.2.1; omega
      · rw [if_neg h3]
        by_cases h4 : sumL a * sumL b ≤ 1000000000000000
        · rw [if_pos h4]; exact ⟨fun _ => ⟨o1, o2, by omega, h4⟩, fun _ => rfl⟩
        · rw [if_neg h4]; constructor
          · intro h; cases h
          · intro h; exact absurd h.2.2.2 h4
    · rw [if_neg (by simpa using h1), if_pos h2]
      exact ⟨fun h => absurd h h2, fun h => errW_zero.2 h.2.1⟩
  · rw [if_pos h1]
    exact ⟨fun h => absurd h h1, fun h => errW_zero.2 h.1⟩
/-- Sum and Join: the list and the error -/
def sumR (a b : List Int) : List Int × Int := if fitsW a b (a.length + b.length - 1) = 0 then (conv a b, 0) else ([], fitsW a b (a.length + b.length - 1))
def pairs (a b : List Int) : List Int := a.flatMap fun x => b.map fun y => x * y
def joinR (a b : List Int) : List Int × Int := if fitsW a b (a.length * b.length) = 0 then (pairs a b, 0) else ([], fitsW a b (a.length * b.length))
end Go.Proofs.Ytiikkcifdhcejaa
namespace Go.Proofs.Ytiikkcifdhcejaa

/-- the numerator of a product is no more than its denominator -/
theorem both_bd {a b : Ch} (ha : OkC a) (hb : OkC b) : 0 ≤ ratN a.n b.d * ratN b.n a.d ∧ ratN a.n b.d * ratN b.n a.d ≤ ratD a.n b.d * ratD b.n a.d ∧ 1 ≤ ratD a.n b.d ∧ 1 ≤ ratD b.n a.d ∧ ratD a.n b.d ≤ b.d ∧ ratD b.n a.d ≤ a.d ∧ 0 ≤ ratN a.n b.d ∧ 0 ≤ ratN b.n a.d ∧ ratN a.n b.d ≤ a.n ∧ ratN b.n a.d ≤ b.n := by
  have a1 := ha.d1; have a3 := ha.n0; have a4 := ha.n1
  have b1 := hb.d1; have b3 := hb.n0; have b4 := hb.n1
  have g0 : 0 < gI a.n b.d := gI_pos (.inr (by omega))
  have h0 : 0 < gI b.n a.d := gI_pos (.inr (by omega))
  have e1 : ratN a.n b.d * gI a.n b.d = a.n := Int.ediv_mul_cancel (gI_dvd_left a3)
  have e2 : ratD a.n b.d * gI a.n b.d = b.d := Int.ediv_mul_cancel (gI_dvd_right (by omega))
  have e3 : ratN b.n a.d * gI b.n a.d = b.n := Int.ediv_mul_cancel (gI_dvd_left b3)
  have e4 : ratD b.n a.d * gI b.n a.d = a.d := Int.ediv_mul_cancel (gI_dvd_right (by omega))
  have x0 : 0 ≤ ratN a.n b.d := Int.ediv_nonneg a3 (by omega)
  have y0 : 0 ≤ ratN b.n a.d := Int.ediv_nonneg b3 (by omega)
  have x1 : 1 ≤ ratD a.n b.d := Int.le_ediv_of_mul_le g0 (by have := gI_le_right a.n (show 0 < b.d by omega); omega)
  have y1 : 1 ≤ ratD b.n a.d := Int.le_ediv_of_mul_le h0 (by have := gI_le_right b.n (show 0 < a.d by omega); omega)
  have k : ratN a.n b.d * ratN b.n a.d ≤ ratD a.n b.d * ratD b.n a.d := by
    have h1 : ratN a.n b.d * ratN b.n a.d * (gI a.n b.d * gI b.n a.d) ≤ ratD a.n b.d * ratD b.n a.d * (gI a.n b.d * gI b.n a.d) := by
      have e5 : ratN a.n b.d * ratN b.n a.d * (gI a.n b.d * gI b.n a.d) = a.n * b.n := by
        rw [← e1, ← e3]; rw [e1, e3]
        have : ratN a.n b.d * ratN b.n a.d * (gI a.n b.d * gI b.n a.d) = ratN a.n b.d * gI a.n b.d * (ratN b.n a.d * gI b.n a.d) := by ac_rfl
        rw [this, e1, e3]
      have e6 : ratD a.n b.d * ratD b.n a.d * (gI a.n b.d * gI b.n a.d) = b.d * a.d := by
        have : ratD a.n b.d * ratD b.n a.d * (gI a.n b.d * gI b.n a.d) = ratD a.n b.d * gI a.n b.d * (ratD b.n a.d * gI b.n a.d) := by ac_rfl
        rw [this, e2, e4]
      rw [e5, e6, Int.mul_comm b.d]
      exact Int.mul_le_mul a4 b4 b3 (by omega)
    exact Int.le_of_mul_le_mul_right h1 (Int.mul_pos g0 h0)
  exact ⟨Int.mul_nonneg x0 y0, k, x1, y1, Int.ediv_le_self _ (by omega), Int.ediv_le_self _ (by omega), x0, y0, Int.ediv_le_self _ a3, Int.ediv_le_self _ b3⟩
theorem okC_not {b : Ch} (hb : OkC b) : OkC ⟨b.d - b.n, b.d⟩ := by
  have h1 := hb.d1; have h2 := hb.d2; have h3 := hb.n0; have h4 := hb.n1; have h5 := hb.g
  refine ⟨h1, h2, by show 0 ≤ b.d - b.n; omega, by show b.d - b.n ≤ b.d; omega, ?_⟩
  show gI (b.d - b.n) b.d = 1
  have d1 : gI (b.d - b.n) b.d ∣ b.d := gI_dvd_right (by omega)
  have d2 : gI (b.d - b.n) b.d ∣ b.d - b.n := gI_dvd_left (by omega)
  have d3 : gI (b.d - b.n) b.d ∣ b.n := by
    have := Int.dvd_sub d1 d2
    rwa [show b.d - (b.d - b.n) = b.n by omega] at this
  have d4 := dvd_gI h3 (by omega) d3 d1
  rw [h5] at d4
  have p := gI_pos (a := b.d - b.n) (b := b.d) (.inr (by omega))
  have := Int.le_of_dvd (by omega) d4
  omega
/-- the numerator of a sum: the quotients and what they leave -/
theorem either_num {a b : Ch} (ha : OkC a) (hb : OkC b) {den N : Int} (h : N * (a.d * b.d) = den * (a.n * b.d + b.n * a.d)) :
    a.n * den / a.d + b.n * den / b.d + (if 0 < a.n * den % a.d ∨ 0 < b.n * den % b.d then 1 else 0) = N := by
  have a1 := ha.d1; have b1 := hb.d1
  have e1 := Int.mul_ediv_add_emod (a.n * den) a.d
  have e2 := Int.mul_ediv_add_emod (b.n * den) b.d
  have r0 := Int.emod_nonneg (a.n * den) (show a.d ≠ 0 by omega)
  have r1 := Int.emod_lt_of_pos (a.n * den) (show 0 < a.d by omega)
  have s0 := Int.emod_nonneg (b.n * den) (show b.d ≠ 0 by omega)
  have s1 := Int.emod_lt_of_pos (b.n * den) (show 0 < b.d by omega)
  obtain ⟨A, hA⟩ : ∃ A, A = a.n * den / a.d := ⟨_, rfl⟩
  obtain ⟨B, hB⟩ : ∃ A, A = b.n * den / b.d := ⟨_, rfl⟩
  obtain ⟨R, hR⟩ : ∃ A, A = a.n * den % a.d := ⟨_, rfl⟩
  obtain ⟨S, hS⟩ : ∃ A, A = b.n * den % b.d := ⟨_, rfl⟩
  rw [← hA, ← hR] at e1
  rw [← hB, ← hS] at e2
  rw [← hR] at r0 r1
  rw [← hS] at s0 s1
  rw [← hA, ← hB, ← hR, ← hS]
  have key : (N - A - B) * (a.d * b.d) = R * b.d + S * a.d := by
    have k1 : den * (a.n * b.d + b.n * a.d) = a.n * den * b.d + b.n * den * a.d := by rw [Int.mul_add]; congr 1 <;> ac_rfl
    rw [k1, ← e1, ← e2] at h
    have k2 : (a.d * A + R) * b.d = A * (a.d * b.d) + R * b.d := by rw [Int.add_mul]; congr 1; ac_rfl
    have k3 : (b.d * B + S) * a.d = B * (a.d * b.d) + S * a.d := by rw [Int.add_mul]; congr 1; ac_rfl
    rw [k2, k3] at h
    rw [Int.sub_mul, Int.sub_mul]; omega
  have up : R * b.d + S * a.d < 2 * (a.d * b.d) := by
    have u1 : (R + 1) * b.d ≤ a.d * b.d := Int.mul_le_mul_of_nonneg_right (by omega) (by omega)
    have u2 : (S + 1) * a.d ≤ b.d * a.d := Int.mul_le_mul_of_nonneg_right (by omega) (by omega)
    rw [Int.add_mul, Int.one_mul] at u1 u2
    rw [Int.mul_comm b.d a.d] at u2
    omega
  have lo0 : 0 ≤ R * b.d := Int.mul_nonneg r0 (by omega)
  have lo1 : 0 ≤ S * a.d := Int.mul_nonneg s0 (by omega)
  have pp : 0 < a.d * b.d := Int.mul_pos (by omega) (by omega)
  obtain ⟨K, hK⟩ : ∃ K, K = N - A - B := ⟨_, rfl⟩
  rw [← hK] at key
  have hk2 : K < 2 := by
    rcases Int.lt_or_le K 2 with h | h
    · exact h
    · have := Int.mul_le_mul_of_nonneg_right h (show 0 ≤ a.d * b.d by omega); omega
  have hk0 : 0 ≤ K := by
    rcases Int.lt_or_le K 0 with h | h
    · have := Int.mul_neg_of_neg_of_pos h pp; omega
    · exact h
  by_cases hz : 0 < R ∨ 0 < S
  · rw [if_pos hz]
    have : 0 < R * b.d + S * a.d := by
      rcases hz with h | h
      · have := Int.mul_pos h (show 0 < b.d by omega); omega
      · have := Int.mul_pos h (show 0 < a.d by omega); omega
    have : K ≠ 0 := fun e => by rw [e, Int.zero_mul] at key; omega
    omega
  · rw [if_neg hz]
    have hR0 : R = 0 := by omega
    have hS0 : S = 0 := by omega
    rw [hR0, hS0, Int.zero_mul, Int.zero_mul, Int.add_zero] at key
    have : K = 0 := by
      rcases Int.mul_eq_zero.1 key with h | h
      · exact h
      · omega
    omega
theorem eH_dvd {a b : Ch} (ha : OkC a) (hb : OkC b) : eH a b ∣ eN a b ∧ eH a b ∣ eG a b := by
  have e := ef_of ha hb
  have g1 := e.g1
  have m0 := Int.emod_nonneg (eN a b) (show eG a b ≠ 0 by omega)
  have d1 : eH a b ∣ eN a b % eG a b := gI_dvd_left m0
  have d2 : eH a b ∣ eG a b := gI_dvd_right (by omega)
  refine ⟨?_, d2⟩
  have d3 := Int.dvd_add (Int.dvd_trans d2 (Int.dvd_mul_right (eG a b) (eN a b / eG a b))) d1
  rwa [Int.mul_ediv_add_emod] at d3
/-- a sum of chances, as the reference reckons it -/
theorem either_fin {a b : Ch} (ha : OkC a) (hb : OkC b) : a.n * eD a b / a.d + b.n * eD a b / b.d + (if 0 < a.n * eD a b % a.d ∨ 0 < b.n * eD a b % b.d then 1 else 0) = eN a b / eH a b := by
  have e := ef_of ha hb
  obtain ⟨d1, d2⟩ := eH_dvd ha hb
  have h1 := e.h1
  refine either_num ha hb ?_
  have k1 : eN a b * eG a b = a.n * b.d + b.n * a.d := by
    have h2 : eN a b = a.n * eQ a b + b.n * eP a b := rfl
    rw [h2, ← e.pa, ← e.qb, Int.add_mul]; congr 1 <;> ac_rfl
  have k2 : eN a b / eH a b * eG a b = eN a b * (eG a b / eH a b) := by
    obtain ⟨x, hx⟩ := d1
    obtain ⟨y, hy⟩ := d2
    rw [hx, hy, Int.mul_ediv_cancel_left _ (by omega), Int.mul_ediv_cancel_left _ (by omega)]
    ac_rfl
  have k3 : a.d * b.d = eP a b * eG a b * (eQ a b * eG a b) := by rw [e.pa, e.qb]
  rw [← k1, k3]
  show eN a b / eH a b * (eP a b * eG a b * (eQ a b * eG a b)) = eP a b * eQ a b * (eG a b / eH a b) * (eN a b * eG a b)
  have k4 : eN a b / eH a b * (eP a b * eG a b * (eQ a b * eG a b)) = eN a b / eH a b * eG a b * (eP a b * eQ a b * eG a b) := by ac_rfl
  rw [k4, k2]; ac_rfl
theorem rests_mod {x y g : Int} : (x % g + y % g) % g = (x + y) % g := (Int.add_emod x y g).symm
end Go.Proofs.Ytiikkcifdhcejaa
namespace Go.Proofs.Ytiikkcifdhcejaa

/-- the sum of some weights -/
def selS (w o : List Int) : Int := sumL (o.map fun k => w.getD k.toNat 0)
theorem selS_take (w o : List Int) (k : Nat) (h : k < o.length) : selS w (o.take (k + 1)) = selS w (o.take k) + w.getD (o[k]).toNat 0 := by
  unfold selS
  rw [List.map_take, List.map_take]
  have := sumL_take (o.map fun k => w.getD k.toNat 0) k (by simpa using h)
  rw [this]; simp
theorem sumL_setz {l : List Int} {k : Nat} {x : Int} (hk : k < l.length) (hz : l.getD k 0 = 0) : sumL (l.set k x) = sumL l + x := by
  have e : bump l k x = l.set k x := by unfold bump; rw [hz, Int.zero_add]
  rw [← e, ← ev_one, ev_bump 1 l k x hk, ev_one, Int.one_pow, Int.mul_one]
theorem keepF_sum (w : List Int) (n : Int) : ∀ (o acc : List Int) (next : Int), 0 ≤ next → amongF n next o = true → (acc.length : Int) = n → (∀ j : Nat, next ≤ j → acc.getD j 0 = 0) → sumL (keepF w acc o) = sumL acc + selS w o
  | [], acc, next, _, _, _, _ => by simp [keepF, selS, sumL]
  | k :: o, acc, next, h0, h, hl, hz => by
    simp only [amongF, Bool.and_eq_true, decide_eq_true_eq] at h
    obtain ⟨⟨h1, h2⟩, h3⟩ := h
    have hk : k.toNat < acc.length := by omega
    have ih := keepF_sum w n o (acc.set k.toNat (w.getD k.toNat 0)) (k + 1) (by omega) h3 (by rw [List.length_set]; exact hl) (fun j hj => by
      have e : (acc.set k.toNat (w.getD k.toNat 0)).getD j 0 = acc.getD j 0 := by
        simp only [List.getD_eq_getElem?_getD]; rw [List.getElem?_set_ne (by omega)]
      rw [e]; exact hz j (by omega))
    show sumL (keepF w (acc.set k.toNat (w.getD k.toNat 0)) o) = _
    rw [ih, sumL_setz hk (hz _ (by omega))]
    have : selS w (k :: o) = w.getD k.toNat 0 + selS w o := by simp [selS, sumL_cons]
    rw [this]; omega
theorem keepL_sel {w o : List Int} (h : amongB o w.length = true) : sumL (keepL w o) = selS w o := by
  unfold keepL
  rw [keepF_sum w w.length o _ 0 (by omega) h (by simp) (fun j _ => by
    rw [List.getD_eq_getElem?_getD, List.getElem?_replicate]; split <;> rfl)]
  have : sumL (List.replicate w.length 0) = 0 := by
    have : ∀ n, sumL (List.replicate n 0) = 0 := fun n => by
      induction n with
      | zero => rfl
      | succ n ih => rw [List.replicate_succ, sumL_cons, ih]; rfl
    exact this _
  rw [this]; omega
theorem selS_nn {w o : List Int} (h : ∀ x ∈ w, 0 ≤ x) : 0 ≤ selS w o := by
  refine sumL_nonneg fun x hx => ?_
  obtain ⟨k, _, rfl⟩ := List.mem_map.1 hx
  by_cases hk : k.toNat < w.length
  · have := h _ (List.getElem_mem hk); simp [hk]; exact this
  · simp [Nat.not_lt.1 hk]
theorem selS_split (w o : List Int) (k : Nat) : selS w o = selS w (o.take k) + selS w (o.drop k) := by
  unfold selS
  rw [← sumL_append, ← List.map_append, List.take_append_drop]
end Go.Proofs.Ytiikkcifdhcejaa
namespace Go.Proofs.Ytiikkcifdhcejaa

/-- nothing but 1 divides both -/
def Co (a b : Int) : Prop := 0 ≤ a ∧ 0 ≤ b ∧ gI a b = 1
theorem co_nat {a b : Nat} : Co a b ↔ Nat.Coprime a b := by
  unfold Co gI Nat.Coprime
  rw [Int.toNat_natCast, Int.toNat_natCast]
  constructor
  · rintro ⟨_, _, h⟩; exact_mod_cast h
  · intro h; exact ⟨by omega, by omega, by exact_mod_cast h⟩
theorem Co.nat {a b : Int} (h : Co a b) : ∃ m n : Nat, a = m ∧ b = n ∧ Nat.Coprime m n := by
  obtain ⟨ha, hb, _⟩ := id h
  obtain ⟨m, rfl⟩ := Int.eq_ofNat_of_zero_le ha
  obtain ⟨n, rfl⟩ := Int.eq_ofNat_of_zero_le hb
  exact ⟨m, n, rfl, rfl, co_nat.1 h⟩
theorem Co.symm {a b : Int} (h : Co a b) : Co b a := by
  obtain ⟨m, n, rfl, rfl, h'⟩ := h.nat
  exact co_nat.2 h'.symm
theorem Co.of_dvd {a b c : Int} (h : Co a b) (hc : 0 ≤ c) (hd : c ∣ a) : Co c b := by
  obtain ⟨m, n, rfl, rfl, h'⟩ := h.nat
  obtain ⟨c, rfl⟩ := Int.eq_ofNat_of_zero_le hc
  exact co_nat.2 (Nat.Coprime.coprime_dvd_left (Int.natCast_dvd_natCast.1 hd) h')
theorem Co.mul {a b c : Int} (h1 : Co a c) (h2 : Co b c) : Co (a * b) c := by
  obtain ⟨m, n, rfl, rfl, h1'⟩ := h1.nat
  obtain ⟨k, n', rfl, hn, h2'⟩ := h2.nat
  have : n = n' := by omega
  subst this
  rw [← Int.natCast_mul]
  exact co_nat.2 (Nat.Coprime.mul_left h1' h2')
theorem Co.dvd {a b c : Int} (h : Co a b) (hc : 0 ≤ c) (hd : a ∣ b * c) : a ∣ c := by
  obtain ⟨m, n, rfl, rfl, h'⟩ := h.nat
  obtain ⟨c, rfl⟩ := Int.eq_ofNat_of_zero_le hc
  rw [← Int.natCast_mul] at hd
  exact Int.natCast_dvd_natCast.2 (Nat.Coprime.dvd_of_dvd_mul_left h' (Int.natCast_dvd_natCast.1 hd))
theorem Co.add {a b k : Int} (h : Co a b) (hk : 0 ≤ k) : Co (a + b * k) b := by
  obtain ⟨m, n, rfl, rfl, h'⟩ := h.nat
  obtain ⟨k, rfl⟩ := Int.eq_ofNat_of_zero_le hk
  rw [← Int.natCast_mul, ← Int.natCast_add]
  refine co_nat.2 ?_
  unfold Nat.Coprime at h' ⊢
  rw [Nat.gcd_add_mul_left_left]; exact h'
theorem co_div {a b : Int} (ha : 0 ≤ a) (hb : 0 ≤ b) (hg : 0 < gI a b) : Co (a / gI a b) (b / gI a b) := by
  obtain ⟨m, rfl⟩ := Int.eq_ofNat_of_zero_le ha
  obtain ⟨n, rfl⟩ := Int.eq_ofNat_of_zero_le hb
  unfold gI at hg ⊢
  rw [Int.toNat_natCast, Int.toNat_natCast] at hg ⊢
  rw [← Int.natCast_ediv, ← Int.natCast_ediv]
  exact co_nat.2 (Nat.coprime_div_gcd_div_gcd (by omega))
theorem OkC.co {x : Ch} (h : OkC x) : Co x.n x.d := ⟨h.n0, by have := h.d1; omega, h.g⟩
theorem ok_mk {n d : Int} (h : Co n d) (d1 : 1 ≤ d) (d2 : d ≤ 1000000000000000) (nd : n ≤ d) : OkC ⟨n, d⟩ := ⟨d1, d2, h.1, nd, h.2.2⟩
/-- fractions in lowest terms are told by their values -/
theorem co_unique {n d m e : Int} (h1 : Co n d) (h2 : Co m e) (hd : 0 < d) (he : 0 < e) (h : n * e = m * d) : n = m ∧ d = e := by
  have a1 : d ∣ e := h1.symm.dvd (by omega) ⟨m, by rw [h, Int.mul_comm]⟩
  have a2 : e ∣ d := h2.symm.dvd (by omega) ⟨n, by rw [← h, Int.mul_comm]⟩
  have e1 := Int.le_of_dvd he a1
  have e2 := Int.le_of_dvd hd a2
  have e3 : d = e := by omega
  subst e3
  exact ⟨Int.eq_of_mul_eq_mul_right (by omega) h, rfl⟩
/-- a fraction in lowest terms -/
theorem rat_cross {n d : Int} (hn : 0 ≤ n) (hd : 0 < d) : ratN n d * d = n * ratD n d := by
  have g : 0 < gI n d := gI_pos (.inr hd)
  obtain ⟨a, ha⟩ := gI_dvd_left (b := d) hn
  obtain ⟨b, hb⟩ := gI_dvd_right (a := n) (show 0 ≤ d by omega)
  have e1 : ratN n d = a := by unfold ratN; conv => lhs; arg 1; rw [ha]
                               rw [Int.mul_ediv_cancel_left _ (by omega)]
  have e2 : ratD n d = b := by unfold ratD; conv => lhs; arg 1; rw [hb]
                               rw [Int.mul_ediv_cancel_left _ (by omega)]
  rw [e1, e2]
  conv => lhs; arg 2; rw [hb]
  conv => rhs; arg 1; rw [ha]
  ac_rfl
theorem rat_ok {n d : Int} (hn : 0 ≤ n) (hd : 0 < d) (hnd : n ≤ d) (hd2 : d ≤ 1000000000000000) : OkC ⟨ratN n d, ratD n d⟩ := by
  have g : 0 < gI n d := gI_pos (.inr hd)
  have c : Co (ratN n d) (ratD n d) := co_div hn (by omega) g
  have gl := gI_le_right n hd
  refine ok_mk c (Int.le_ediv_of_mul_le g (by omega)) (Int.le_trans (Int.ediv_le_self _ (by omega)) hd2) ?_
  exact Int.ediv_le_ediv g hnd
theorem rat_unique {n d N D : Int} (hn : 0 ≤ n) (hd : 0 < d) (hnd : n ≤ d) (hd2 : d ≤ 1000000000000000) (h : Co N D) (hD : 0 < D) (e : N * d = n * D) : ratN n d = N ∧ ratD n d = D := by
  have o := rat_ok hn hd hnd hd2
  refine co_unique o.co h (by have := o.d1; exact this) hD ?_
  have c := rat_cross hn hd
  show ratN n d * D = N * ratD n d
  apply Int.eq_of_mul_eq_mul_right (a := d) (by omega)
  calc ratN n d * D * d = ratN n d * d * D := by ac_rfl
    _ = n * ratD n d * D := by rw [c]
    _ = n * D * ratD n d := by ac_rfl
    _ = N * d * ratD n d := by rw [e]
    _ = N * ratD n d * d := by ac_rfl
/-- a sum of chances is in lowest terms -/
theorem either_low {a b : Ch} (ha : OkC a) (hb : OkC b) : Co (eN a b / eH a b) (eD a b) ∧ eN a b / eH a b * (a.d * b.d) = eD a b * (a.n * b.d + b.n * a.d) := by
  have e := ef_of ha hb
  obtain ⟨d1, d2⟩ := eH_dvd ha hb
  have h1 := e.h1; have g1 := e.g1; have p1 := e.p1; have q1 := e.q1; have n0 := e.n0; have gh1 := e.gh1
  have a0 := ha.n0; have b0 := hb.n0; have ad := ha.d1; have bd := hb.d1
  have k1 : eN a b * eG a b = a.n * b.d + b.n * a.d := by
    have h2 : eN a b = a.n * eQ a b + b.n * eP a b := rfl
    rw [h2, ← e.pa, ← e.qb, Int.add_mul]; congr 1 <;> ac_rfl
  have k2 : eN a b / eH a b * eG a b = eN a b * (eG a b / eH a b) := by
    obtain ⟨x, hx⟩ := d1
    obtain ⟨y, hy⟩ := d2
    rw [hx, hy, Int.mul_ediv_cancel_left _ (by omega), Int.mul_ediv_cancel_left _ (by omega)]
    ac_rfl
  refine ⟨?_, ?_⟩
  · have cPQ : Co (eP a b) (eQ a b) := co_div (by omega) (by omega) (gI_pos (.inl (by omega)))
    have cnP : Co a.n (eP a b) := (ha.co.symm.of_dvd (by omega) ⟨eG a b, e.pa.symm⟩).symm
    have cmQ : Co b.n (eQ a b) := (hb.co.symm.of_dvd (by omega) ⟨eG a b, e.qb.symm⟩).symm
    have cNP : Co (eN a b) (eP a b) := by
      have := (cnP.mul cPQ.symm).add b0
      have h2 : eN a b = a.n * eQ a b + eP a b * b.n := by rw [show eN a b = a.n * eQ a b + b.n * eP a b from rfl, Int.mul_comm b.n]
      rw [h2]; exact this
    have cNQ : Co (eN a b) (eQ a b) := by
      have := (cmQ.mul cPQ).add a0
      have h2 : eN a b = b.n * eP a b + eQ a b * a.n := by rw [show eN a b = a.n * eQ a b + b.n * eP a b from rfl, Int.mul_comm a.n, Int.add_comm]
      rw [h2]; exact this
    have hH : eH a b = gI (eN a b) (eG a b) := by
      unfold eH
      rw [gI_comm, gI_step n0 (by omega)]
    have cNg : Co (eN a b / eH a b) (eG a b / eH a b) := by
      rw [hH]; exact co_div n0 (by omega) (by rw [← hH]; omega)
    have nn0 : 0 ≤ eN a b / eH a b := Int.ediv_nonneg n0 (by omega)
    have dv : eN a b / eH a b ∣ eN a b := ⟨eH a b, (Int.ediv_mul_cancel d1).symm⟩
    have c1 := (cNP.of_dvd nn0 dv).symm.mul (cNQ.of_dvd nn0 dv).symm
    exact (c1.mul cNg.symm).symm
  · have k3 : a.d * b.d = eP a b * eG a b * (eQ a b * eG a b) := by rw [e.pa, e.qb]
    rw [← k1, k3]
    show eN a b / eH a b * (eP a b * eG a b * (eQ a b * eG a b)) = eP a b * eQ a b * (eG a b / eH a b) * (eN a b * eG a b)
    have k4 : eN a b / eH a b * (eP a b * eG a b * (eQ a b * eG a b)) = eN a b / eH a b * eG a b * (eP a b * eQ a b * eG a b) := by ac_rfl
    rw [k4, k2]; ac_rfl
end Go.Proofs.Ytiikkcifdhcejaa
namespace Go.Proofs.Ytiikkcifdhcejaa

theorem either_val {a b : Ch} (ha : OkC a) (hb : OkC b) {N D : Int} (h : Co N D) (hD : 0 < D) (hDl : D ≤ 1000000000000000) (hND : N ≤ D) (e : N * (a.d * b.d) = D * (a.n * b.d + b.n * a.d)) : eitherR a b = (N, D, 0) := by
  have ad := ha.d1; have bd := hb.d1
  have pp : 0 < a.d * b.d := Int.mul_pos (by omega) (by omega)
  have okp : okP a b = true := okP_iff.2 ⟨ha, hb⟩
  have hle : ¬ (b.d - b.n) * a.d < a.n * b.d := by
    have h1 : N * (a.d * b.d) ≤ D * (a.d * b.d) := Int.mul_le_mul_of_nonneg_right hND (by omega)
    rw [e] at h1
    have h2 := Int.le_of_mul_le_mul_left h1 hD
    rw [Int.sub_mul, Int.mul_comm b.d a.d]; omega
  obtain ⟨c, e2⟩ := either_low ha hb
  have ef := ef_of ha hb
  have pq := Int.mul_pos (show 0 < eP a b by have := ef.p1; omega) (show 0 < eQ a b by have := ef.q1; omega)
  have hd : eP a b * eQ a b ≤ eD a b := by
    have := Int.mul_le_mul_of_nonneg_left ef.gh1 (show 0 ≤ eP a b * eQ a b by omega)
    rw [Int.mul_one] at this; exact this
  obtain ⟨u1, u2⟩ := co_unique c h (by omega) hD (by
    apply Int.eq_of_mul_eq_mul_right (a := a.d * b.d) (by omega)
    calc eN a b / eH a b * D * (a.d * b.d) = D * (eN a b / eH a b * (a.d * b.d)) := by ac_rfl
      _ = D * (eD a b * (a.n * b.d + b.n * a.d)) := by rw [e2]
      _ = D * (a.n * b.d + b.n * a.d) * eD a b := by ac_rfl
      _ = N * (a.d * b.d) * eD a b := by rw [e]
      _ = N * eD a b * (a.d * b.d) := by ac_rfl)
  unfold eitherR
  rw [if_pos okp, if_neg hle, if_pos ⟨by omega, by omega⟩, u1, u2]
/-- what Either returns without an error -/
theorem either_ok {a b : Ch} (h : (eitherR a b).2.2 = 0) : OkC a ∧ OkC b ∧ OkC ⟨(eitherR a b).1, (eitherR a b).2.1⟩ ∧ (eitherR a b).1 * (a.d * b.d) = (eitherR a b).2.1 * (a.n * b.d + b.n * a.d) := by
  unfold eitherR at h ⊢
  by_cases okp : okP a b = true
  · rw [if_pos okp] at h ⊢
    obtain ⟨ha, hb⟩ := okP_iff.1 okp
    by_cases hle : (b.d - b.n) * a.d < a.n * b.d
    · rw [if_pos hle] at h; cases h
    · rw [if_neg hle] at h ⊢
      by_cases hs : eP a b * eQ a b ≤ 1000000000000000 ∧ eD a b ≤ 1000000000000000
      · rw [if_pos hs] at h ⊢
        obtain ⟨c, e2⟩ := either_low ha hb
        have ad := ha.d1; have bd := hb.d1
        have ef := ef_of ha hb
        have pp : 0 < a.d * b.d := Int.mul_pos (by omega) (by omega)
        have pq := Int.mul_pos (show 0 < eP a b by have := ef.p1; omega) (show 0 < eQ a b by have := ef.q1; omega)
        have hd : eP a b * eQ a b ≤ eD a b := by
          have := Int.mul_le_mul_of_nonneg_left ef.gh1 (show 0 ≤ eP a b * eQ a b by omega)
          rw [Int.mul_one] at this; exact this
        have hd1 : 1 ≤ eD a b := by omega
        refine ⟨ha, hb, ok_mk c hd1 hs.2 ?_, e2⟩
        apply Int.le_of_mul_le_mul_right (a := a.d * b.d) _ pp
        rw [e2]
        refine Int.mul_le_mul_of_nonneg_left ?_ (by omega)
        rw [Int.sub_mul, Int.mul_comm b.d a.d] at hle; omega
      · rw [if_neg hs] at h; cases h
  · rw [if_neg okp] at h; cases h
theorem both_low {a b : Ch} (ha : OkC a) (hb : OkC b) : Co (ratN a.n b.d * ratN b.n a.d) (ratD a.n b.d * ratD b.n a.d) ∧ ratN a.n b.d * ratN b.n a.d * (a.d * b.d) = ratD a.n b.d * ratD b.n a.d * (a.n * b.n) := by
  obtain ⟨x0, xy, xd1, yd1, xd2, yd2, xn0, yn0, xn1, yn1⟩ := both_bd ha hb
  have a3 := ha.n0; have b3 := hb.n0; have a1 := ha.d1; have b1 := hb.d1
  have g0 : 0 < gI a.n b.d := gI_pos (.inr (by omega))
  have h0 : 0 < gI b.n a.d := gI_pos (.inr (by omega))
  have c1 : Co (ratN a.n b.d) (ratD a.n b.d) := co_div a3 (by omega) g0
  have c2 : Co (ratN b.n a.d) (ratD b.n a.d) := co_div b3 (by omega) h0
  have dn1 : ratN a.n b.d ∣ a.n := ⟨gI a.n b.d, (Int.ediv_mul_cancel (gI_dvd_left a3)).symm⟩
  have dd1 : ratD a.n b.d ∣ b.d := ⟨gI a.n b.d, (Int.ediv_mul_cancel (gI_dvd_right (by omega))).symm⟩
  have dn2 : ratN b.n a.d ∣ b.n := ⟨gI b.n a.d, (Int.ediv_mul_cancel (gI_dvd_left b3)).symm⟩
  have dd2 : ratD b.n a.d ∣ a.d := ⟨gI b.n a.d, (Int.ediv_mul_cancel (gI_dvd_right (by omega))).symm⟩
  have c3 : Co (ratN a.n b.d) (ratD b.n a.d) := ((ha.co.of_dvd xn0 dn1).symm.of_dvd (by omega) dd2).symm
  have c4 : Co (ratN b.n a.d) (ratD a.n b.d) := ((hb.co.of_dvd yn0 dn2).symm.of_dvd (by omega) dd1).symm
  refine ⟨(((c1.mul c4).symm.mul (c3.mul c2).symm).symm), ?_⟩
  have e1 := rat_cross a3 (show 0 < b.d by omega)
  have e2 := rat_cross b3 (show 0 < a.d by omega)
  calc ratN a.n b.d * ratN b.n a.d * (a.d * b.d) = (ratN a.n b.d * b.d) * (ratN b.n a.d * a.d) := by ac_rfl
    _ = (a.n * ratD a.n b.d) * (b.n * ratD b.n a.d) := by rw [e1, e2]
    _ = _ := by ac_rfl
theorem both_val {a b : Ch} (ha : OkC a) (hb : OkC b) {N D : Int} (h : Co N D) (hD : 0 < D) (hDl : D ≤ 1000000000000000) (e : N * (a.d * b.d) = D * (a.n * b.n)) : bothR a b = (N, D, 0) := by
  have ad := ha.d1; have bd := hb.d1
  have pp : 0 < a.d * b.d := Int.mul_pos (by omega) (by omega)
  obtain ⟨x0, xy, xd1, yd1, xd2, yd2, xn0, yn0, xn1, yn1⟩ := both_bd ha hb
  obtain ⟨c, e2⟩ := both_low ha hb
  have okp : okP a b = true := okP_iff.2 ⟨ha, hb⟩
  have dp := Int.mul_pos (show 0 < ratD a.n b.d by omega) (show 0 < ratD b.n a.d by omega)
  obtain ⟨u1, u2⟩ := co_unique c h dp hD (by
    apply Int.eq_of_mul_eq_mul_right (a := a.d * b.d) (by omega)
    calc ratN a.n b.d * ratN b.n a.d * D * (a.d * b.d) = D * (ratN a.n b.d * ratN b.n a.d * (a.d * b.d)) := by ac_rfl
      _ = D * (ratD a.n b.d * ratD b.n a.d * (a.n * b.n)) := by rw [e2]
      _ = D * (a.n * b.n) * (ratD a.n b.d * ratD b.n a.d) := by ac_rfl
      _ = N * (a.d * b.d) * (ratD a.n b.d * ratD b.n a.d) := by rw [e]
      _ = N * (ratD a.n b.d * ratD b.n a.d) * (a.d * b.d) := by ac_rfl)
  unfold bothR
  rw [if_pos okp, if_pos (by omega), u1, u2]
theorem both_ok {a b : Ch} (h : (bothR a b).2.2 = 0) : OkC a ∧ OkC b ∧ OkC ⟨(bothR a b).1, (bothR a b).2.1⟩ ∧ (bothR a b).1 * (a.d * b.d) = (bothR a b).2.1 * (a.n * b.n) := by
  unfold bothR at h ⊢
  by_cases okp : okP a b = true
  · rw [if_pos okp] at h ⊢
    obtain ⟨ha, hb⟩ := okP_iff.1 okp
    by_cases hs : ratD a.n b.d * ratD b.n a.d ≤ 1000000000000000
    · rw [if_pos hs] at h ⊢
      obtain ⟨x0, xy, xd1, yd1, xd2, yd2, xn0, yn0, xn1, yn1⟩ := both_bd ha hb
      obtain ⟨c, e2⟩ := both_low ha hb
      have dp := Int.mul_pos (show 0 < ratD a.n b.d by omega) (show 0 < ratD b.n a.d by omega)
      have hd1 : 1 ≤ ratD a.n b.d * ratD b.n a.d := by omega
      exact ⟨ha, hb, ok_mk c hd1 hs xy, e2⟩
    · rw [if_neg hs] at h; cases h
  · rw [if_neg okp] at h; cases h
/-- Of without an error -/
theorem of_val {w o : List Int} (ok : OkW w) (ha : amongB o w.length = true) : ofR w o = (ratN (selS w o) (sumL w), ratD (selS w o) (sumL w), 0) ∧ OkC ⟨ratN (selS w o) (sumL w), ratD (selS w o) (sumL w)⟩ ∧ ratN (selS w o) (sumL w) * sumL w = selS w o * ratD (selS w o) (sumL w) ∧ 0 ≤ selS w o ∧ selS w o ≤ sumL w := by
  have hp := ok.pos; have hl := ok.le
  have h0 := selS_nn (o := o) ok.nn
  have h1 := keepL_le ok ha
  rw [keepL_sel ha] at h1
  refine ⟨?_, rat_ok h0 (by omega) h1 hl, rat_cross h0 (by omega), h0, h1⟩
  unfold ofR
  rw [if_pos (errW_zero.2 ok), if_pos ha, keepL_sel ha]
end Go.Proofs.Ytiikkcifdhcejaa

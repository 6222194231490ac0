/- Plain: sums of outcomes as products of polynomials. -/
import Derived.Test.YtmfbiohdmhbkoaaPm
namespace Go.Proofs.Ytmfbiohdmhbkoaa

/-- the value of a list at a base -/
def ev (B : Int) : List Int → Int
  | [] => 0
  | x :: l => x + B * ev B l
/-- a number is added to a place -/
def bump (l : List Int) (k : Nat) (x : Int) : List Int := l.set k (l.getD k 0 + x)
theorem bump_len (l : List Int) (k : Nat) (x : Int) : (bump l k x).length = l.length := by simp [bump]
theorem ev_one : ∀ l, ev 1 l = sumL l
  | [] => rfl
  | x :: l => by rw [sumL_cons, ← ev_one l]; simp [ev]
theorem ev_bump (B : Int) : ∀ (l : List Int) (k : Nat) (x : Int), k < l.length → ev B (bump l k x) = ev B l + x * B ^ k
  | [], k, x, h => by cases h
  | y :: l, 0, x, _ => by simp [bump, ev]; omega
  | y :: l, k + 1, x, h => by
    have ih := ev_bump B l k x (by simpa using h)
    have e : bump (y :: l) (k + 1) x = y :: bump l k x := by simp [bump]
    rw [e]
    simp only [ev, ih, Int.pow_succ]
    rw [Int.mul_add]
    have : B * (x * B ^ k) = x * (B ^ k * B) := by rw [Int.mul_left_comm, Int.mul_comm B]
    rw [this]; omega
theorem bump_nn {l : List Int} {k : Nat} {x : Int} (h : ∀ y ∈ l, 0 ≤ y) (hx : 0 ≤ x) : ∀ y ∈ bump l k x, 0 ≤ y := fun y hy => by
  rcases List.mem_or_eq_of_mem_set hy with h1 | h1
  · exact h y h1
  · rw [h1]
    have : 0 ≤ l.getD k 0 := by
      by_cases hk : k < l.length
      · have := h _ (List.getElem_mem hk); simp [hk]; exact this
      · simp [Nat.not_lt.1 hk]
    omega
theorem ev_nn {B : Int} (hB : 0 ≤ B) : ∀ {l : List Int}, (∀ y ∈ l, 0 ≤ y) → 0 ≤ ev B l
  | [], _ => Int.le_refl _
  | x :: l, h => by
    have h1 := ev_nn hB (l := l) fun y hy => h y (by simp [hy])
    have h2 := Int.mul_nonneg hB h1
    have := h x (by simp)
    simp only [ev]; omega
theorem ev_take (B : Int) : ∀ (l : List Int) (k : Nat) (h : k < l.length), ev B (l.take (k + 1)) = ev B (l.take k) + l[k] * B ^ k
  | x :: l, 0, _ => by simp [ev]
  | x :: l, k + 1, h => by
    have ih := ev_take B l k (by simpa using h)
    simp only [List.take_succ_cons, ev, ih, List.getElem_cons_succ, Int.pow_succ]
    rw [Int.mul_add]
    have : B * (l[k]'(by simpa using h) * B ^ k) = l[k]'(by simpa using h) * (B ^ k * B) := by rw [Int.mul_left_comm, Int.mul_comm B]
    rw [this]; omega
/-- a list of digits is known by its value -/
theorem ev_inj {B : Int} (hB : 0 < B) : ∀ {a b : List Int}, a.length = b.length → (∀ y ∈ a, 0 ≤ y ∧ y < B) → (∀ y ∈ b, 0 ≤ y ∧ y < B) → ev B a = ev B b → a = b
  | [], [], _, _, _, _ => rfl
  | x :: a, y :: b, hl, ha, hb, he => by
    simp only [ev] at he
    have hx := ha x (by simp); have hy := hb y (by simp)
    have e1 : (x + B * ev B a) % B = x := by rw [Int.add_mul_emod_self_left, Int.emod_eq_of_lt hx.1 hx.2]
    have e2 : (y + B * ev B b) % B = y := by rw [Int.add_mul_emod_self_left, Int.emod_eq_of_lt hy.1 hy.2]
    have hxy : x = y := by rw [← e1, he, e2]
    subst hxy
    have h3 : B * ev B a = B * ev B b := by omega
    have h4 : ev B a = ev B b := Int.eq_of_mul_eq_mul_left (by omega) h3
    rw [ev_inj hB (by simpa using hl) (fun y hy => ha y (by simp [hy])) (fun y hy => hb y (by simp [hy])) h4]
/-- a row of a product: the first j terms are added from place i on -/
def rowTo (acc : List Int) (x : Int) (b : List Int) (i : Nat) : Nat → List Int
  | 0 => acc
  | j + 1 => bump (rowTo acc x b i j) (i + j) (x * b.getD j 0)
def convTo (a b : List Int) : Nat → List Int
  | 0 => List.replicate (a.length + b.length - 1) 0
  | i + 1 => rowTo (convTo a b i) (a.getD i 0) b i b.length
/-- the weights of a sum of two outcomes -/
def conv (a b : List Int) : List Int := convTo a b a.length
theorem rowTo_len (acc : List Int) (x : Int) (b : List Int) (i : Nat) : ∀ j, (rowTo acc x b i j).length = acc.length
  | 0 => rfl
  | j + 1 => by simp only [rowTo, bump_len, rowTo_len acc x b i j]
theorem convTo_len (a b : List Int) : ∀ i, (convTo a b i).length = a.length + b.length - 1
  | 0 => by simp [convTo]
  | i + 1 => by simp only [convTo, rowTo_len, convTo_len a b i]
theorem conv_len (a b : List Int) : (conv a b).length = a.length + b.length - 1 := convTo_len a b _
theorem ev_rowTo (B : Int) (acc : List Int) (x : Int) (b : List Int) (i : Nat) : ∀ j, j ≤ b.length → i + b.length ≤ acc.length → ev B (rowTo acc x b i j) = ev B acc + x * B ^ i * ev B (b.take j)
  | 0, _, _ => by simp [rowTo, ev]
  | j + 1, hj, hi => by
    have ih := ev_rowTo B acc x b i j (by omega) hi
    simp only [rowTo]
    rw [ev_bump B _ _ _ (by rw [rowTo_len]; omega), ih, ev_take B b j (by omega), Int.mul_add, Int.pow_add]
    have e : b.getD j 0 = b[j]'(by omega) := by simp [show j < b.length by omega]
    rw [e]
    have : x * b[j]'(by omega) * (B ^ i * B ^ j) = x * B ^ i * (b[j]'(by omega) * B ^ j) := by
      rw [Int.mul_assoc, Int.mul_assoc, Int.mul_left_comm (b[j]'(by omega)) (B ^ i)]
    rw [this]; omega
theorem ev_convTo (B : Int) (a b : List Int) (hb : 0 < b.length) : ∀ i, i ≤ a.length → ev B (convTo a b i) = ev B (a.take i) * ev B b
  | 0, _ => by
    have : ∀ n, ev B (List.replicate n 0) = 0 := fun n => by
      induction n with
      | zero => rfl
      | succ n ih => simp [List.replicate_succ, ev, ih]
    simp [convTo, this, ev]
  | i + 1, hi => by
    have ih := ev_convTo B a b hb i (by omega)
    simp only [convTo]
    rw [ev_rowTo B _ _ b i _ (Nat.le_refl _) (by rw [convTo_len]; omega), ih, ev_take B a i (by omega), List.take_length, Int.add_mul]
    have e : a.getD i 0 = a[i]'(by omega) := by simp [show i < a.length by omega]
    rw [e]
theorem ev_conv (B : Int) (a b : List Int) (hb : 0 < b.length) : ev B (conv a b) = ev B a * ev B b := by
  rw [conv, ev_convTo B a b hb _ (Nat.le_refl _), List.take_length]
theorem sumL_conv (a b : List Int) (hb : 0 < b.length) : sumL (conv a b) = sumL a * sumL b := by rw [← ev_one, ← ev_one, ← ev_one, ev_conv 1 a b hb]
theorem rowTo_nn {acc : List Int} {x : Int} {b : List Int} {i : Nat} (h : ∀ y ∈ acc, 0 ≤ y) (hx : 0 ≤ x) (hb : ∀ y ∈ b, 0 ≤ y) : ∀ j, ∀ y ∈ rowTo acc x b i j, 0 ≤ y
  | 0 => h
  | j + 1 => bump_nn (rowTo_nn h hx hb j) (Int.mul_nonneg hx (by
      by_cases hk : j < b.length
      · have := hb _ (List.getElem_mem hk); simp [hk]; exact this
      · simp [Nat.not_lt.1 hk]))
theorem convTo_nn {a b : List Int} (ha : ∀ y ∈ a, 0 ≤ y) (hb : ∀ y ∈ b, 0 ≤ y) : ∀ i, ∀ y ∈ convTo a b i, 0 ≤ y
  | 0 => fun y hy => by simp [convTo] at hy; omega
  | i + 1 => rowTo_nn (convTo_nn ha hb i) (by
      by_cases hk : i < a.length
      · have := ha _ (List.getElem_mem hk); simp [hk]; exact this
      · simp [Nat.not_lt.1 hk]) hb _
theorem conv_nn {a b : List Int} (ha : ∀ y ∈ a, 0 ≤ y) (hb : ∀ y ∈ b, 0 ≤ y) : ∀ y ∈ conv a b, 0 ≤ y := convTo_nn ha hb _
/-- what stands while a product is added up is no more than the product of the sums -/
theorem row_bd {a b : List Int} (ha : ∀ y ∈ a, 0 ≤ y) (hb : ∀ y ∈ b, 0 ≤ y) (hbl : 0 < b.length) {i j : Nat} (hi : i < a.length) (hj : j ≤ b.length) :
    sumL (rowTo (convTo a b i) (a.getD i 0) b i j) ≤ sumL a * sumL b := by
  have e1 : a.getD i 0 = a[i] := by simp [hi]
  rw [← ev_one, ev_rowTo 1 _ _ b i j hj (by rw [convTo_len]; omega), ev_convTo 1 a b hbl i (by omega), ev_one, ev_one, ev_one, e1]
  have h1 := sumL_take_le hb j
  have h2 := sumL_take a i hi
  have h3 := sumL_take_le ha (i + 1)
  have h4 := ha _ (List.getElem_mem hi)
  have h5 := sumL_nonneg hb
  have h6 : a[i] * 1 ^ i * sumL (b.take j) ≤ a[i] * sumL b := by
    rw [Int.one_pow, Int.mul_one]; exact Int.mul_le_mul_of_nonneg_left h1.2 h4
  have h7 : sumL (a.take (i + 1)) * sumL b ≤ sumL a * sumL b := Int.mul_le_mul_of_nonneg_right h3.2 h5
  rw [h2, Int.add_mul] at h7
  omega
theorem fitsPair {a b : List Int} (ha : ∀ y ∈ a, 0 ≤ y) (hb : ∀ y ∈ b, 0 ≤ y) (h : sumL a * sumL b ≤ 1000000000000000) : ∀ x ∈ a, ∀ y ∈ b, 0 ≤ x * y ∧ x * y ≤ 1000000000000000 := fun x hx y hy => by
  have hx0 := ha x hx; have hy0 := hb y hy
  have h1 : x ≤ sumL a := by obtain ⟨k, hk, rfl⟩ := List.mem_iff_getElem.1 hx; exact le_sumL ha hk
  have h2 : y ≤ sumL b := by obtain ⟨k, hk, rfl⟩ := List.mem_iff_getElem.1 hy; exact le_sumL hb hk
  have h3 := Int.mul_le_mul h1 h2 hy0 (by omega)
  exact ⟨Int.mul_nonneg hx0 hy0, by omega⟩
/-- the error of a pair with so many outcomes -/
def fitsW (a b : List Int) (many : Int) : Int :=
  if errW a ≠ 0 then errW a else if errW b ≠ 0 then errW b else if 4096 < many then 5 else if sumL a * sumL b ≤ 1000000000000000 then 0 else 10
theorem fitsW_zero {a b : List Int} {m : Int} : fitsW a b m = 0 ↔ OkW a ∧ OkW b ∧ m ≤ 4096 ∧ sumL a * sumL b ≤ 1000000000000000 := by
  unfold fitsW
  by_cases h1 : errW a = 0
  · by_cases h2 : errW b = 0
    · rw [if_neg (by simpa using h1), if_neg (by simpa using h2)]
      have o1 := errW_zero.1 h1; have o2 := errW_zero.1 h2
      by_cases h3 : 4096 < m
      · rw [if_pos h3]; constructor
        · intro h; cases h
        · intro h; have := h.2.2.1; omega
      · rw [if_neg h3]
        by_cases h4 : sumL a * sumL b ≤ 1000000000000000
        · rw [if_pos h4]; exact ⟨fun _ => ⟨o1, o2, by omega, h4⟩, fun _ => rfl⟩
        · rw [if_neg h4]; constructor
          · intro h; cases h
          · intro h; exact absurd h.2.2.2 h4
    · rw [if_neg (by simpa using h1), if_pos h2]
      exact ⟨fun h => absurd h h2, fun h => errW_zero.2 h.2.1⟩
  · rw [if_pos h1]
    exact ⟨fun h => absurd h h1, fun h => errW_zero.2 h.1⟩
/-- Sum and Join: the list and the error -/
def sumR (a b : List Int) : List Int × Int := if fitsW a b (a.length + b.length - 1) = 0 then (conv a b, 0) else ([], fitsW a b (a.length + b.length - 1))
def pairs (a b : List Int) : List Int := a.flatMap fun x => b.map fun y => x * y
def joinR (a b : List Int) : List Int × Int := if fitsW a b (a.length * b.length) = 0 then (pairs a b, 0) else ([], fitsW a b (a.length * b.length))
end Go.Proofs.Ytmfbiohdmhbkoaa

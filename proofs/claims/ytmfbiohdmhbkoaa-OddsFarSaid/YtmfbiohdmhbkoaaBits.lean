/- Sets of small numbers as bits. -/
import Derived.Test.YtmfbiohdmhbkoaaMem
import Derived.Lib.BitFns
namespace Go.Proofs.Ytmfbiohdmhbkoaa
open Go.RowKit

/-- the numbers below n for which p, as bits -/
def bset (p : Nat → Bool) : Nat → Nat
  | 0 => 0
  | n + 1 => bset p n + if p n then 2 ^ n else 0
theorem bset_lt (p : Nat → Bool) (n : Nat) : bset p n < 2 ^ n := by
  induction n with
  | zero => simp [bset]
  | succ n ih => simp only [bset]; rw [Nat.pow_succ]; split <;> omega
theorem bset_testBit (p : Nat → Bool) (n i : Nat) : (bset p n).testBit i = (decide (i < n) && p i) := by
  induction n with
  | zero => simp [bset]
  | succ n ih =>
    have hlt := bset_lt p n
    have hor : bset p (n + 1) = (if p n then 2 ^ n else 0) ||| bset p n := by
      simp only [bset]
      by_cases hp : p n = true
      · simp only [hp, if_true]
        have h := Nat.two_pow_add_eq_or_of_lt hlt 1
        rw [Nat.mul_one] at h
        rw [Nat.add_comm, h]
      · simp [hp]
    rw [hor, Nat.testBit_or, ih]
    by_cases hi : i = n
    · subst hi
      by_cases hp : p i = true <;> simp [hp, Nat.testBit_two_pow_self]
    · have hne : ¬ n = i := fun h => hi h.symm
      have hd : decide (i < n) = decide (i < n + 1) := by simp; omega
      by_cases hp : p n = true <;> simp [hp, hne, hd]
theorem bset_or (p q : Nat → Bool) (n : Nat) : bset p n ||| bset q n = bset (fun i => p i || q i) n := by
  apply Nat.eq_of_testBit_eq
  intro i
  rw [Nat.testBit_or, bset_testBit, bset_testBit, bset_testBit]
  cases decide (i < n) <;> simp
theorem bset_congr {p q : Nat → Bool} {n : Nat} (h : ∀ i, i < n → p i = q i) : bset p n = bset q n := by
  apply Nat.eq_of_testBit_eq
  intro i
  rw [bset_testBit, bset_testBit]
  by_cases hi : i < n
  · simp [hi, h i hi]
  · simp [hi]
theorem bset_inj {p q : Nat → Bool} {n : Nat} (h : bset p n = bset q n) : ∀ i, i < n → p i = q i := by
  intro i hi
  have := congrArg (·.testBit i) h
  simpa [bset_testBit, hi] using this
theorem bset_more (p : Nat → Bool) {n m : Nat} (h : n ≤ m) (hp : ∀ i, n ≤ i → i < m → p i = false) : bset p m = bset p n := by
  apply Nat.eq_of_testBit_eq
  intro i
  rw [bset_testBit, bset_testBit]
  by_cases hi : i < n
  · simp [hi, Nat.lt_of_lt_of_le hi h]
  · by_cases hm : i < m
    · simp [hi, hm, hp i (by omega) hm]
    · simp [hi, hm]
theorem bset_one {n i : Nat} (h : i < n) : bset (fun j => j == i) n = 2 ^ i := by
  apply Nat.eq_of_testBit_eq
  intro j
  rw [bset_testBit, Nat.testBit_two_pow]
  by_cases hj : j = i
  · subst hj; simp [h]
  · have : ¬ i = j := fun e => hj e.symm
    simp [hj, this]
theorem bset_add {p : Nat → Bool} {n i : Nat} (h : i < n) : bset p n ||| 2 ^ i = bset (fun j => p j || j == i) n := by
  rw [← bset_one h, bset_or]
theorem bset_bit (p : Nat → Bool) (n i : Nat) : bset p n / 2 ^ i % 2 = if decide (i < n) && p i then 1 else 0 := by
  rw [← bset_testBit p n i, Nat.testBit_eq_decide_div_mod_eq]
  have : bset p n / 2 ^ i % 2 = 0 ∨ bset p n / 2 ^ i % 2 = 1 := by omega
  rcases this with h | h <;> simp [h]
theorem bset_zero (n : Nat) : bset (fun _ => false) n = 0 := by
  induction n with
  | zero => rfl
  | succ n ih => simp [bset, ih]
theorem pow_le_bset {n : Nat} (h : n ≤ 31) : (2 : Nat) ^ n ≤ 2147483648 := Nat.le_trans (Nat.pow_le_pow_right (by omega) h) (by decide)

/-! at the kind uint32 -/
theorem u32or (a b : Nat) (ha : a < 4294967296) (hb : b < 4294967296) : bits BinOp.or IntKind.u32 (a : Int) (b : Int) = ((a ||| b : Nat) : Int) := u32_or_nat a b ha hb
theorem u32bit (a i : Nat) (ha : a < 4294967296) : bits BinOp.and IntKind.u32 ((a : Int) / 2 ^ i) 1 = ((a / 2 ^ i % 2 : Nat) : Int) := by
  have h1 : (a : Int) / 2 ^ i = ((a / 2 ^ i : Nat) : Int) := by simp
  have h2 : a / 2 ^ i < 4294967296 := Nat.lt_of_le_of_lt (Nat.div_le_self _ _) ha
  rw [h1]
  have := u32_and_nat (a / 2 ^ i) 1 h2 (by omega)
  rw [Nat.and_one_is_mod] at this
  exact this

/-! how many bits -/
theorem popAux_add (a b : Nat) : ∀ x, Lib.popAux (a + b) x = Lib.popAux a x + Lib.popAux b (x / 2 ^ a) := by
  induction a with
  | zero => intro x; simp [Lib.popAux]
  | succ a ih =>
    intro x
    rw [show a + 1 + b = (a + b) + 1 by omega]
    simp only [Lib.popAux]
    rw [ih, Nat.pow_succ, Nat.mul_comm (2 ^ a) 2, ← Nat.div_div_eq_div_mul, Nat.add_assoc]
theorem popAux_zero (a : Nat) : Lib.popAux a 0 = 0 := by
  induction a with
  | zero => rfl
  | succ a ih => simp [Lib.popAux, ih]
theorem popAux_mod (a k : Nat) (h : a ≤ k) : ∀ x, Lib.popAux a (x % 2 ^ k) = Lib.popAux a x := by
  induction a generalizing k with
  | zero => intro x; rfl
  | succ a ih =>
    intro x
    obtain ⟨k, rfl⟩ : ∃ j, k = j + 1 := ⟨k - 1, by omega⟩
    simp only [Lib.popAux]
    have h1 : x % 2 ^ (k + 1) / 2 = x / 2 % 2 ^ k := by rw [Nat.pow_succ, Nat.mul_comm, Nat.mod_mul_right_div_self]
    have h2 : x % 2 ^ (k + 1) % 2 = x % 2 := by rw [Nat.pow_succ]; exact Nat.mod_mul_left_mod _ _ _
    rw [h1, h2, ih k (by omega)]
theorem ones_8 (y : Nat) (h : y < 256) : Lib.onesCount y = Lib.popAux 8 y := by
  unfold Lib.onesCount
  rw [show 64 = 8 + 56 from rfl, popAux_add, Nat.div_eq_of_lt (by simpa using h), popAux_zero, Nat.add_zero]
theorem ones_24 (x : Nat) (hx : x < 1048576) : Lib.onesCount (x / 65536) + Lib.onesCount (x / 256 % 256) + Lib.onesCount (x % 256) = Lib.popAux 24 x := by
  rw [ones_8 _ (by omega), ones_8 _ (by omega), ones_8 _ (by omega), show (24 : Nat) = 8 + (8 + 8) from rfl, popAux_add 8, popAux_add 8]
  have h1 : Lib.popAux 8 (x % 256) = Lib.popAux 8 x := popAux_mod 8 8 (by omega) x
  have h2 : Lib.popAux 8 (x / 256 % 256) = Lib.popAux 8 (x / 2 ^ 8) := popAux_mod 8 8 (by omega) (x / 256)
  have h3 : x / 2 ^ 8 / 2 ^ 8 = x / 65536 := by rw [Nat.div_div_eq_div_mul]
  rw [h1, h2, h3]; omega
theorem popAux_count (x : Nat) (n : Nat) : Lib.popAux n x = ((List.range n).filter fun i => x.testBit i).length := by
  induction n with
  | zero => rfl
  | succ n ih =>
    rw [popAux_add n 1, ih, List.range_succ, List.filter_append, List.length_append]
    congr 1
    simp only [Lib.popAux, List.filter_cons, List.filter_nil, Nat.testBit_eq_decide_div_mod_eq]
    have : x / 2 ^ n % 2 = 0 ∨ x / 2 ^ n % 2 = 1 := by omega
    rcases this with h | h <;> rw [h] <;> rfl
theorem filter_bset (p : Nat → Bool) (n m : Nat) (h : n ≤ m) : ((List.range m).filter fun i => (bset p n).testBit i) = (List.range n).filter p := by
  obtain ⟨d, rfl⟩ : ∃ d, m = n + d := ⟨m - n, by omega⟩
  rw [List.range_add, List.filter_append]
  have h1 : (List.filter (fun i => (bset p n).testBit i) (List.map (fun x => n + x) (List.range d))) = [] := by
    rw [List.filter_eq_nil_iff]
    intro a ha
    obtain ⟨b, _, rfl⟩ := List.mem_map.1 ha
    rw [bset_testBit]; simp; intro hlt; omega
  rw [h1, List.append_nil]
  refine List.filter_congr fun a ha => ?_
  rw [bset_testBit]; simp [List.mem_range.1 ha]
theorem pop_bset (p : Nat → Bool) (n m : Nat) (h : n ≤ m) : Lib.popAux m (bset p n) = ((List.range n).filter p).length := by
  rw [popAux_count, filter_bset p n m h]
end Go.Proofs.Ytmfbiohdmhbkoaa

/- Plain: fair throws: each value is decided by equally many lists of throws. -/
import Derived.Test.YtmfbiohdmhbkoaaPm
namespace Go.Proofs.Ytmfbiohdmhbkoaa

/-- the sum of f over the numbers below n -/
def sm (f : Nat → Nat) : Nat → Nat
  | 0 => 0
  | n + 1 => sm f n + f n
theorem sm_congr {f g : Nat → Nat} : ∀ {n : Nat}, (∀ i, i < n → f i = g i) → sm f n = sm g n
  | 0, _ => rfl
  | n + 1, h => by simp only [sm]; rw [sm_congr (n := n) fun i hi => h i (by omega), h n (by omega)]
theorem sm_add (f : Nat → Nat) (a : Nat) : ∀ b, sm f (a + b) = sm f a + sm (fun i => f (a + i)) b
  | 0 => by simp [sm]
  | b + 1 => by
    show sm f (a + b) + f (a + b) = _
    rw [sm_add f a b]; simp only [sm]; omega
theorem sm_mul (f : Nat → Nat) (s : Nat) : ∀ N, sm f (N * s) = sm (fun x => sm (fun t => f (x * s + t)) s) N
  | 0 => by simp [sm]
  | N + 1 => by
    rw [Nat.add_mul, Nat.one_mul, sm_add, sm_mul f s N]; rfl
theorem sm_zero : ∀ n, sm (fun _ => 0) n = 0
  | 0 => rfl
  | n + 1 => by simp only [sm, sm_zero n]
theorem sm_plus (f g : Nat → Nat) : ∀ n, sm (fun i => f i + g i) n = sm f n + sm g n
  | 0 => rfl
  | n + 1 => by simp only [sm, sm_plus f g n]; omega
theorem sm_swap (f : Nat → Nat → Nat) (m : Nat) : ∀ n, sm (fun i => sm (fun j => f i j) m) n = sm (fun j => sm (fun i => f i j) n) m
  | 0 => by simp only [sm]; rw [sm_zero]
  | n + 1 => by
    simp only [sm]
    rw [sm_swap f m n, ← sm_plus]
theorem sm_const (c : Nat) : ∀ n, sm (fun _ => c) n = n * c
  | 0 => by simp [sm]
  | n + 1 => by simp only [sm, sm_const c n, Nat.add_mul]; omega
theorem sm_le {f : Nat → Nat} (h : ∀ i, f i ≤ 1) : ∀ n, sm f n ≤ n
  | 0 => by simp [sm]
  | n + 1 => by have := sm_le h n; have := h n; simp only [sm]; omega
/-- one number below n is v -/
theorem sm_one {v : Nat} : ∀ {n : Nat}, sm (fun i => if i = v then 1 else 0) n = if v < n then 1 else 0
  | 0 => by simp [sm]
  | n + 1 => by
    simp only [sm, sm_one (v := v) (n := n)]
    by_cases h : n = v
    · subst h; simp
    · rw [if_neg h]
      by_cases h2 : v < n
      · rw [if_pos h2, if_pos (by omega)]
      · rw [if_neg h2, if_neg (by omega)]
/-- what is decided by some throws, of a size and a value -/
def valN (s b : Nat) : List Nat → Nat → Nat → Option Nat
  | [], size, value => if value < size / b * b then some (value % b) else none
  | t :: l, size, value => if value < size / b * b then some (value % b) else valN s b l (size % b * s) ((value - size / b * b) * s + t)
/-- the first n throws of a number -/
def dig (s : Nat) : Nat → Nat → List Nat
  | 0, _ => []
  | n + 1, x => x % s :: dig s n (x / s)
theorem digE_len (s : Nat) : ∀ n x, (dig s n x).length = n
  | 0, _ => rfl
  | n + 1, x => by simp [dig, digE_len s n]
theorem digE_lt {s : Nat} (hs : 0 < s) : ∀ n x, ∀ t ∈ dig s n x, t < s
  | 0, _, t, h => by cases h
  | n + 1, x, t, h => by
    rcases List.mem_cons.1 h with rfl | h
    · exact Nat.mod_lt _ hs
    · exact digE_lt hs n _ t h
def ind (p : Prop) [Decidable p] : Nat := if p then 1 else 0
/-- how many pairs of a value and throws decide for v -/
def G (s b n size v : Nat) : Nat := sm (fun value => sm (fun x => ind (valN s b (dig s n x) size value = some v)) (s ^ n)) size
theorem G_split {s b n size v : Nat} (_hb : 0 < b) (hv : v < b) :
    G s b n size v = size / b * s ^ n + sm (fun i => sm (fun x => ind (valN s b (dig s n x) size (size / b * b + i) = some v)) (s ^ n)) (size % b) := by
  have e : size = size / b * b + size % b := by rw [Nat.mul_comm]; exact (Nat.div_add_mod size b).symm
  unfold G
  obtain ⟨q, hq⟩ : ∃ q, q = size / b := ⟨_, rfl⟩
  obtain ⟨r, hr⟩ : ∃ r, r = size % b := ⟨_, rfl⟩
  rw [← hq, ← hr] at e ⊢
  have e2 : sm (fun value => sm (fun x => ind (valN s b (dig s n x) size value = some v)) (s ^ n)) size = sm (fun value => sm (fun x => ind (valN s b (dig s n x) size value = some v)) (s ^ n)) (q * b + r) := by rw [← e]
  rw [e2, sm_add]
  congr 1
  have h1 : ∀ value, value < q * b → sm (fun x => ind (valN s b (dig s n x) size value = some v)) (s ^ n) = s ^ n * ind (value % b = v) := fun value hlt => by
    rw [← sm_const]
    refine sm_congr fun x _ => ?_
    have : valN s b (dig s n x) size value = some (value % b) := by
      cases dig s n x <;> simp only [valN, ← hq, if_pos hlt]
    rw [this]; simp [ind]
  rw [sm_congr h1, sm_mul]
  have h2 : ∀ x, x < q → sm (fun t => s ^ n * ind ((x * b + t) % b = v)) b = s ^ n := fun x _ => by
    have h3 : sm (fun t => s ^ n * ind ((x * b + t) % b = v)) b = sm (fun t => s ^ n * (if t = v then 1 else 0)) b := sm_congr fun t ht => by
      rw [Nat.mul_comm x b, Nat.mul_add_mod, Nat.mod_eq_of_lt ht]; rfl
    have h4 : ∀ m, sm (fun t => s ^ n * (if t = v then 1 else 0)) m = s ^ n * sm (fun t => if t = v then 1 else 0) m := fun m => by
      induction m with
      | zero => rfl
      | succ m ih => simp only [sm, ih, Nat.mul_add]
    rw [h3, h4, sm_one, if_pos hv, Nat.mul_one]
  rw [sm_congr h2, sm_const]
theorem G_zero {s b size v : Nat} (hb : 0 < b) (hv : v < b) : G s b 0 size v = size / b := by
  rw [G_split hb hv, Nat.pow_zero, Nat.mul_one]
  have : sm (fun i => sm (fun x => ind (valN s b (dig s 0 x) size (size / b * b + i) = some v)) 1) (size % b) = 0 := by
    refine (sm_congr (g := fun _ => 0) fun i _ => ?_).trans (sm_zero _)
    simp only [sm, dig, valN]
    rw [if_neg (by omega)]; simp [ind]
  rw [this, Nat.add_zero]
theorem G_succ {s b n size v : Nat} (hs : 0 < s) (hb : 0 < b) (hv : v < b) : G s b (n + 1) size v = size / b * s ^ (n + 1) + G s b n (size % b * s) v := by
  rw [G_split hb hv]
  congr 1
  have h1 : ∀ i, i < size % b → sm (fun x => ind (valN s b (dig s (n + 1) x) size (size / b * b + i) = some v)) (s ^ (n + 1)) = sm (fun t => sm (fun x => ind (valN s b (dig s n x) (size % b * s) (i * s + t) = some v)) (s ^ n)) s := fun i _ => by
    rw [Nat.pow_succ, sm_mul, sm_swap]
    refine sm_congr fun t ht => sm_congr fun x _ => ?_
    have e1 : (x * s + t) % s = t := by rw [Nat.mul_comm, Nat.mul_add_mod, Nat.mod_eq_of_lt ht]
    have e2 : (x * s + t) / s = x := by rw [Nat.mul_comm, Nat.mul_add_div hs, Nat.div_eq_of_lt ht, Nat.add_zero]
    simp only [dig, e1, e2, valN]
    rw [if_neg (by omega), Nat.add_sub_cancel_left]
  rw [sm_congr h1, G, sm_mul]
/-- no value is favoured -/
theorem G_even {s b : Nat} (hs : 0 < s) (hb : 0 < b) : ∀ n size v v', v < b → v' < b → G s b n size v = G s b n size v'
  | 0, size, v, v', h, h' => by rw [G_zero hb h, G_zero hb h']
  | n + 1, size, v, v', h, h' => by rw [G_succ hs hb h, G_succ hs hb h', G_even hs hb n _ v v' h h']
/-- how many of the first k lists of n throws decide for v -/
def cntE (s b n k v : Nat) : Nat := sm (fun x => ind (valN s b (dig s n x) 1 0 = some v)) k
theorem cntE_even {s b n v v' : Nat} (hs : 0 < s) (hb : 0 < b) (h : v < b) (h' : v' < b) : cntE s b n (s ^ n) v = cntE s b n (s ^ n) v' := by
  have e : ∀ u, G s b n 1 u = cntE s b n (s ^ n) u := fun u => by unfold G cntE; simp only [sm, Nat.zero_add]
  rw [← e, ← e]; exact G_even hs hb n 1 v v' h h'
theorem cntE_le (s b n k v : Nat) : cntE s b n k v ≤ k := sm_le (fun i => by unfold ind; split <;> omega) k
/-- the law's lists -/
def cntL (s b n k : Nat) : List Int := (List.range b).map fun v => (cntE s b n k v : Int)
theorem cntL_len (s b n k : Nat) : (cntL s b n k).length = b := by simp [cntL]
theorem cntL_get {s b n k v : Nat} (h : v < b) : (cntL s b n k)[v]'(by rw [cntL_len]; exact h) = (cntE s b n k v : Int) := by simp [cntL]
theorem cntL_zero (s b n : Nat) : cntL s b n 0 = List.replicate b 0 := by
  apply List.ext_getElem
  · simp [cntL_len]
  · intro i h1 h2
    rw [cntL_len] at h1
    rw [cntL_get h1]; simp [cntE, sm]
theorem cntL_none {s b n k : Nat} (h : valN s b (dig s n k) 1 0 = none) : cntL s b n (k + 1) = cntL s b n k := by
  apply List.ext_getElem
  · simp [cntL_len]
  · intro i h1 h2
    rw [cntL_len] at h1
    rw [cntL_get h1, cntL_get h1]
    simp [cntE, sm, h, ind]
theorem cntL_some {s b n k v : Nat} (hv : v < b) (h : valN s b (dig s n k) 1 0 = some v) : cntL s b n (k + 1) = (cntL s b n k).set v ((cntL s b n k)[v]'(by rw [cntL_len]; exact hv) + 1) := by
  apply List.ext_getElem
  · simp [cntL_len]
  · intro i h1 h2
    rw [cntL_len] at h1
    rw [cntL_get h1]
    by_cases e : i = v
    · subst e
      rw [List.getElem_set_self, cntL_get h1]
      simp [cntE, sm, h, ind]
    · rw [List.getElem_set_ne (by omega), cntL_get h1]
      have : ¬ v = i := fun h => e h.symm
      simp [cntE, sm, h, ind, this]
/-- the program's reckoning is this one -/
theorem fairGo_val {s b : Nat} (hb : 0 < b) : ∀ (l : List Nat) (size value : Nat) (u : Int), match valN s b l size value with
    | some v => ∃ k : Nat, k ≤ l.length ∧ fairGo s b (l.map Int.ofNat) size value u = ((v : Int), u + k, 0) ∧ fairGo s b ((l.take k).map Int.ofNat) size value u = ((v : Int), u + k, 0) ∧ v < b
    | none => fairGo s b (l.map Int.ofNat) size value u = (0, 0, 7) := by
  have key : ∀ (size value : Nat), ((value : Int) < (size : Int) - (size : Int) % (b : Int)) ↔ value < size / b * b := fun size value => by
    have e1 : (size : Int) % (b : Int) = ((size % b : Nat) : Int) := (Int.natCast_emod size b).symm
    have e2 := Nat.div_add_mod size b
    rw [Nat.mul_comm] at e2
    rw [e1]; omega
  have mod : ∀ (value : Nat), (value : Int) % (b : Int) = ((value % b : Nat) : Int) := fun value => (Int.natCast_emod value b).symm
  intro l
  induction l with
  | nil =>
    intro size value u
    by_cases h : value < size / b * b
    · simp only [valN, if_pos h]
      refine ⟨0, by simp, ?_, ?_, Nat.mod_lt _ hb⟩
      · simp only [List.map_nil, fairGo]; rw [if_pos ((key size value).2 h), mod]; simp
      · simp only [List.take_nil, List.map_nil, fairGo]; rw [if_pos ((key size value).2 h), mod]; simp
    · simp only [valN, if_neg h, List.map_nil, fairGo]
      rw [if_neg (fun hh => h ((key size value).1 hh))]
  | cons t l ih =>
    intro size value u
    by_cases h : value < size / b * b
    · simp only [valN, if_pos h]
      refine ⟨0, by simp, ?_, ?_, Nat.mod_lt _ hb⟩
      · simp only [List.map_cons, fairGo]; rw [if_pos ((key size value).2 h), mod]; simp
      · simp only [List.take_zero, List.map_nil, fairGo]; rw [if_pos ((key size value).2 h), mod]; simp
    · simp only [valN, if_neg h]
      have hn : ¬ ((value : Int) < (size : Int) - (size : Int) % (b : Int)) := fun hh => h ((key size value).1 hh)
      have e1 : (size : Int) % (b : Int) * (s : Int) = ((size % b * s : Nat) : Int) := by rw [← Int.natCast_emod, Int.natCast_mul]
      have e2 : ((value : Int) - ((size : Int) - (size : Int) % (b : Int))) * (s : Int) + Int.ofNat t = (((value - size / b * b) * s + t : Nat) : Int) := by
        have e3 : ((value : Int) - ((size : Int) - (size : Int) % (b : Int))) = ((value - size / b * b : Nat) : Int) := by
          have e4 : (size : Int) % (b : Int) = ((size % b : Nat) : Int) := (Int.natCast_emod size b).symm
          have e5 := Nat.div_add_mod size b
          rw [Nat.mul_comm] at e5
          rw [e4]; omega
        rw [e3]; simp
      have ih' := ih (size % b * s) ((value - size / b * b) * s + t) (u + 1)
      cases hv : valN s b l (size % b * s) ((value - size / b * b) * s + t) with
      | none =>
        rw [hv] at ih'
        simp only [List.map_cons, fairGo, if_neg hn, e1, e2]
        exact ih'
      | some v =>
        rw [hv] at ih'
        obtain ⟨k, hk, h1, h2, h3⟩ := ih'
        refine ⟨k + 1, by simp; omega, ?_, ?_, h3⟩
        · simp only [List.map_cons, fairGo, if_neg hn, e1, e2, h1]
          congr 2; omega
        · simp only [List.take_succ_cons, List.map_cons, fairGo, if_neg hn, e1, e2, h2]
          congr 2; omega
end Go.Proofs.Ytmfbiohdmhbkoaa

/- Schools without some rules: the plain law. -/
import Derived.Test.YtidlmbajpbbilaaHlG
namespace Go.Proofs.Ytidlmbajpbbilaa
open Go.RowKit

def Rul.off (r : Rul) (b : Bool) : Rul := if b then { r with kinds := 0 } else r
/-- rules of which some have the kinds 0: those of a set of numbers -/
def offR (O : Nat) : Nat → List Rul → List Rul
  | _, [] => []
  | i, r :: l => r.off (O.testBit i) :: offR O (i + 1) l
theorem offR_len (O : Nat) : ∀ (l : List Rul) (i : Nat), (offR O i l).length = l.length
  | [], _ => rfl
  | _ :: l, i => by simp only [offR, List.length_cons, offR_len O l]
theorem offR_get (O : Nat) : ∀ (l : List Rul) (i j : Nat), (offR O i l)[j]? = (l[j]?).map fun r => r.off (O.testBit (i + j))
  | [], _, _ => rfl
  | r :: l, i, 0 => rfl
  | r :: l, i, j + 1 => by
    simp only [offR, List.getElem?_cons_succ, offR_get O l (i + 1) j]
    rw [show i + 1 + j = i + (j + 1) by omega]
theorem offR_succ (O : Nat) : ∀ (l : List Rul) (i : Nat) (r : Rul), offR O i (l ++ [r]) = offR O i l ++ [r.off (O.testBit (i + l.length))]
  | [], i, r => rfl
  | x :: l, i, r => by
    simp only [List.cons_append, offR, offR_succ O l (i + 1) r, List.length_cons]
    rw [show i + 1 + l.length = i + (l.length + 1) by omega]
def Sch.offs (s : Sch) (O : Nat) (A : Option Addr) (c : Nat) : Sch := { s with ra := A, rc := c, rules := offR O 0 s.rules }
section
variable {s : Sch} {O : Nat} {A : Option Addr} {c : Nat}
theorem offs_get (i : Nat) : (s.offs O A c).rules[i]? = (s.rules[i]?).map fun r => r.off (O.testBit i) := by
  show (offR O 0 s.rules)[i]? = _
  rw [offR_get, Nat.zero_add]
theorem offs_len : (s.offs O A c).rules.length = s.rules.length := offR_len _ _ _
theorem off_when (r : Rul) (b : Bool) : (r.off b).when_ = r.when_ := by cases b <;> rfl
theorem off_unless (r : Rul) (b : Bool) : (r.off b).unless_ = r.unless_ := by cases b <;> rfl
theorem off_rank (r : Rul) (b : Bool) : (r.off b).rank = r.rank := by cases b <;> rfl
theorem off_says (r : Rul) (b : Bool) : (r.off b).says = r.says := by cases b <;> rfl
theorem kbit_off (r : Rul) (b : Bool) (kind : Int) : kbit (r.off b) kind = (kbit r kind && !b) := by
  cases b with
  | false => simp [Rul.off]
  | true =>
    simp only [Rul.off, if_true, kbit, Bool.not_true, Bool.and_false]
    rw [Int.zero_ediv]; rfl
theorem appl_offs (ch : List Int) : appl (s.offs O A c) ch = appl s ch := by
  funext i; simp only [appl, offs_get]; cases s.rules[i]? <;> simp [off_when]
theorem spks_offs (hold : Nat → Bool) (kind : Int) : ∀ n, spks (s.offs O A c) hold kind n = spks s (fun i => hold i && !O.testBit i) kind n
  | 0 => rfl
  | n + 1 => by
    have ih := spks_offs hold kind n
    funext i
    simp only [spks, offs_get, ih]
    cases s.rules[n]? with
    | none => simp
    | some r =>
      simp only [Option.map_some, kbit_off, off_unless]
      split
      · cases hold n <;> cases O.testBit n <;> simp
      · rfl
theorem sp_offs (hold : Nat → Bool) (kind : Int) : sp (s.offs O A c) hold kind = sp s (fun i => hold i && !O.testBit i) kind := by funext i; simp only [sp, spks_offs]
theorem rnk_offs : rnk (s.offs O A c) = rnk s := by
  funext i; simp only [rnk, offs_get]; cases s.rules[i]? <;> simp [off_rank]
theorem topR_offs (f : Nat → Bool) : ∀ n, topR (s.offs O A c) f n = topR s f n
  | 0 => rfl
  | n + 1 => by simp only [topR, topR_offs f n, rnk_offs]
theorem mainOf_offs (kind : Int) (ch : List Int) : mainOf (s.offs O A c) 0 kind ch = mainOf s O kind ch := by
  funext i
  simp only [mainOf, mainS, topR_offs, rnk_offs, sp_offs, appl_offs, offs_len, Nat.zero_testBit, Bool.not_false, Bool.and_true]
theorem mainN_offs (kind : Int) (ch : List Int) : mainN (s.offs O A c) 0 kind ch = mainN s O kind ch := by simp only [mainN, mainOf_offs, offs_len]
theorem sys_offs : sys (s.offs O A c) = sys s := by
  funext i; simp only [sys, offs_get]; cases s.rules[i]? <;> simp [off_says]
theorem saidTo_offs (L : Nat) : ∀ n, saidTo (s.offs O A c) L n = saidTo s L n
  | 0 => rfl
  | n + 1 => by funext a; simp only [saidTo, saidTo_offs L n, sys_offs]
theorem ansN_offs (kind : Int) (ch : List Int) : ansN (s.offs O A c) 0 kind ch = ansN s O kind ch := by simp only [ansN, ansOf, mainN_offs, offs_len, saidTo_offs]
theorem rulesB_offs : ∀ (l : List Rul) (i : Nat), rulesB s i l = true → rulesB (s.offs O A c) i (offR O i l) = true
  | [], _, _ => rfl
  | r :: l, i, h => by
    simp only [rulesB, offR, Bool.and_eq_true] at *
    refine ⟨?_, rulesB_offs l (i + 1) h.2⟩
    have h1 := h.1
    cases O.testBit i with
    | false => exact h1
    | true =>
      simp only [ruleB, Rul.off, if_true, Bool.and_eq_true] at *
      refine ⟨⟨⟨⟨h1.1.1.1.1, ?_⟩, h1.1.1.2⟩, h1.1.2⟩, h1.2⟩
      have h2 := h1.1.1.1.2
      simp only [inB, decide_eq_true_eq] at h2 ⊢
      have : (s.offs O A c).kinds = s.kinds := rfl
      rw [this]
      omega
theorem schB_offs (h : schB s = true) : schB (s.offs O A c) = true := by
  simp only [schB, Bool.and_eq_true] at *
  refine ⟨?_, rulesB_offs _ _ h.2⟩
  have h1 := h.1
  simp only [baseB, offs_len] at *
  exact h1
theorem offs_oks (h : ∀ r ∈ s.rules, ∀ t ∈ r.when_, t.ok) : ∀ r ∈ (s.offs O A c).rules, ∀ t ∈ r.when_, t.ok := fun r hr t ht => by
  obtain ⟨i, hi, rfl⟩ := List.mem_iff_getElem.1 hr
  have h1 : (s.offs O A c).rules[i]? = some (s.offs O A c).rules[i] := List.getElem?_eq_getElem hi
  rw [offs_get] at h1
  rw [offs_len] at hi
  rw [List.getElem?_eq_getElem hi] at h1
  simp only [Option.map_some, Option.some.injEq] at h1
  rw [← h1, off_when] at ht
  exact h _ (List.getElem_mem hi) t ht
end
/-- a set of numbers below n as a list -/
def bitsB (O n : Nat) : List Bool := (List.range n).map O.testBit
abbrev boolCell (b : Bool) : List Value := [.bool b]
theorem bitsB_len {O n : Nat} : (bitsB O n).length = n := by simp [bitsB]
theorem bitsB_get {O n i : Nat} (h : i < n) : (bitsB O n)[i]? = some (O.testBit i) := by simp [bitsB, h]
theorem bitsB_zero {n : Nat} : bitsB 0 n = List.replicate n false := by
  simp only [bitsB]
  rw [show Nat.testBit 0 = fun _ => false from funext Nat.zero_testBit, List.map_const', List.length_range]
theorem bitsB_set {O n i : Nat} (h : i < n) : (bitsB O n).set i true = bitsB (O ||| 2 ^ i) n := by
  refine List.ext_getElem? fun j => ?_
  rw [List.getElem?_set]
  by_cases hj : j < n
  · rw [bitsB_get (O := O ||| 2 ^ i) hj]
    split
    · rename_i e; subst e; simp [bitsB_len, hj, Nat.testBit_or, Nat.testBit_two_pow]
    · rename_i e; rw [bitsB_get hj, Nat.testBit_or, Nat.testBit_two_pow]; simp [e]
  · have : (bitsB (O ||| 2 ^ i) n)[j]? = none := by simp [bitsB]; omega
    rw [this]
    split
    · omega
    · simp [bitsB]; omega
theorem bitsB_unset {O n i : Nat} (h : i < n) (hO : O.testBit i = false) : (bitsB (O ||| 2 ^ i) n).set i false = bitsB O n := by
  refine List.ext_getElem? fun j => ?_
  rw [List.getElem?_set]
  by_cases hj : j < n
  · rw [bitsB_get (O := O) hj]
    split
    · rename_i e; subst e; simp [bitsB_len, hj, hO]
    · rename_i e; rw [bitsB_get hj, Nat.testBit_or, Nat.testBit_two_pow]; simp [e]
  · have : (bitsB O n)[j]? = none := by simp [bitsB]; omega
    rw [this]
    split
    · omega
    · simp [bitsB]; omega
/-- one kind is read alike by both -/
def dfR (s : Sch) (O : Nat) (kind : Int) (k : Nat) : Bool := ansN s 0 kind (chartL s k) != ansN s O kind (chartL s k)
theorem firstN_iff {p : Nat → Bool} {N : Nat} : (∀ j, j < N → p j = false) ↔ firstN p N < 0 := by
  constructor
  · intro h; rw [firstN_none h]; omega
  · intro h j hj
    cases hp : p j with
    | false => rfl
    | true =>
      have hd : decide (0 ≤ firstN p N) = (List.range N).any p := firstIdx_any p _
      have ha : (List.range N).any p = true := List.any_eq_true.2 ⟨j, by simpa using hj, hp⟩
      rw [ha] at hd
      have := of_decide_eq_true hd
      omega
theorem sameB_firstN {s : Sch} {O : Nat} : sameB s O = true ↔ ∀ k : Nat, (k : Int) < s.kinds → firstN (dfR s O k) (chartsC s) < 0 := by
  simp only [sameB, List.all_eq_true, List.mem_range, beq_iff_eq]
  constructor
  · intro h k hk
    refine firstN_iff.1 fun j hj => ?_
    simp only [dfR, bne_eq_false_iff_eq]
    exact (h j hj k (by omega)).symm
  · intro h j hj k hk
    have := firstN_iff.2 (h k (by omega)) j hj
    simp only [dfR, bne_eq_false_iff_eq] at this
    exact this.symm
end Go.Proofs.Ytidlmbajpbbilaa

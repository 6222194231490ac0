/- The law SchoolAdds: the plain law. -/
import Derived.Test.YtidlmbajpbbilaaHlH
namespace Go.Proofs.Ytidlmbajpbbilaa
open Go.RowKit

theorem u64_and (x p : Int) (hx : IsU64 x) (hp : IsU64 p) : ∃ A : Nat, bits BinOp.and IntKind.u64 x p = (A : Int) ∧ A ≤ x.toNat ∧ ∀ j, A.testBit j = (x.toNat.testBit j && p.toNat.testBit j) := by
  obtain ⟨X, rfl⟩ := Int.eq_ofNat_of_zero_le hx.1
  obtain ⟨P, rfl⟩ := Int.eq_ofNat_of_zero_le hp.1
  have h1 := hx.2; have h2 := hp.2
  refine ⟨X &&& P, ?_, Nat.and_le_left, fun j => by simp [Nat.testBit_and]⟩
  have h3 : X &&& P ≤ X := Nat.and_le_left
  show IntKind.u64.wrap ((BitVec.ofInt 64 (X : Int) &&& BitVec.ofInt 64 (P : Int)).toNat : Int) = _
  rw [BitVec.toNat_and, BitVec.ofInt_natCast, BitVec.ofInt_natCast, BitVec.toNat_ofNat, BitVec.toNat_ofNat, Nat.mod_eq_of_lt (by omega), Nat.mod_eq_of_lt (by omega), IntKind.wrap_u64]
  omega
theorem u64_andNot (x p : Int) (hx : IsU64 x) (hp : IsU64 p) : ∃ A : Nat, bits BinOp.andNot IntKind.u64 x p = (A : Int) ∧ A ≤ x.toNat ∧ ∀ j, A.testBit j = (x.toNat.testBit j && !p.toNat.testBit j) := by
  obtain ⟨X, rfl⟩ := Int.eq_ofNat_of_zero_le hx.1
  obtain ⟨P, rfl⟩ := Int.eq_ofNat_of_zero_le hp.1
  have h1 := hx.2; have h2 := hp.2
  have h3 : X &&& (2 ^ 64 - (P + 1)) ≤ X := Nat.and_le_left
  refine ⟨X &&& (2 ^ 64 - (P + 1)), ?_, h3, fun j => ?_⟩
  · show IntKind.u64.wrap ((BitVec.ofInt 64 (X : Int) &&& ~~~ BitVec.ofInt 64 (P : Int)).toNat : Int) = _
    rw [BitVec.toNat_and, BitVec.toNat_not, BitVec.ofInt_natCast, BitVec.ofInt_natCast, BitVec.toNat_ofNat, BitVec.toNat_ofNat, Nat.mod_eq_of_lt (by omega), Nat.mod_eq_of_lt (by omega), IntKind.wrap_u64]
    have e : 2 ^ 64 - 1 - P = 2 ^ 64 - (P + 1) := by omega
    rw [e]
    omega
  · have hX : X < 2 ^ 64 := by omega
    by_cases hj : j < 64
    · simp only [Int.toNat_natCast]
      rw [Nat.testBit_and, Nat.testBit_two_pow_sub_succ (by omega)]
      simp [hj]
    · have : X.testBit j = false := Nat.testBit_lt_two_pow (Nat.lt_of_lt_of_le hX (Nat.pow_le_pow_right (by omega) (by omega)))
      simp [Nat.testBit_and, this]
theorem bitB_test {x f : Int} (hx : 0 ≤ x) : bitB x f = x.toNat.testBit f.toNat := by
  obtain ⟨X, rfl⟩ := Int.eq_ofNat_of_zero_le hx
  unfold bitB
  rw [Int.toNat_natCast, ← bool_div X f.toNat]
  congr 1
theorem fitsB_le {sg x : Int} {A : Nat} (hx : 0 ≤ x) (hA : A ≤ x.toNat) (h : fitsB sg x = true) : fitsB sg (A : Int) = true := by
  simp only [fitsB, decide_eq_true_eq] at *
  have hp : (0 : Int) < 2 ^ sg.toNat := Int.pow_pos (by omega)
  have h1 : x < 2 ^ sg.toNat := by
    have := Int.lt_mul_ediv_self_add (x := x) hp
    rw [h] at this; simpa using this
  exact Int.ediv_eq_zero_of_lt (by omega) (by omega)
/-- a region's two parts by the first set -/
structure Parts (x : Int) (a b : Int) : Prop where
  oa : IsU64 a
  ob : IsU64 b
  q : ∃ q : Int → Bool, ∀ f, bitB a f = (bitB x f && q f) ∧ bitB b f = (bitB x f && !q f)
  fa : ∀ sg, fitsB sg x = true → fitsB sg a = true
  fb : ∀ sg, fitsB sg x = true → fitsB sg b = true
theorem parts_of (x p : Int) (hx : IsU64 x) (hp : IsU64 p) : Parts x (bits BinOp.and IntKind.u64 x p) (bits BinOp.andNot IntKind.u64 x p) := by
  obtain ⟨A, hA, hA1, hA2⟩ := u64_and x p hx hp
  obtain ⟨B, hB, hB1, hB2⟩ := u64_andNot x p hx hp
  rw [hA, hB]
  have h0 := hx.1; have h1 := hx.2
  refine ⟨⟨by omega, by omega⟩, ⟨by omega, by omega⟩, ⟨fun f => p.toNat.testBit f.toNat, fun f => ⟨?_, ?_⟩⟩, fun sg h => fitsB_le h0 hA1 h, fun sg h => fitsB_le h0 hB1 h⟩
  · rw [bitB_test (by omega), bitB_test h0, Int.toNat_natCast, hA2]
  · rw [bitB_test (by omega), bitB_test h0, Int.toNat_natCast, hB2]
theorem cnt_two {p p1 p2 : Nat → Bool} (h : ∀ k, p k = (p1 k || p2 k)) (hd : ∀ k, (p1 k && p2 k) = false) : ∀ k, cnt p k = cnt p1 k + cnt p2 k
  | 0 => rfl
  | k + 1 => by
    simp only [cnt, cnt_two h hd k, h k]
    have := hd k
    cases h1 : p1 k <;> cases h2 : p2 k <;> simp [h1, h2] at this ⊢ <;> omega
theorem cnt_zero {p : Nat → Bool} : ∀ {k : Nat}, cnt p k = 0 ↔ ∀ j, j < k → p j = false
  | 0 => by simp [cnt]
  | k + 1 => by
    have hb := cnt_bd p k
    have ih := cnt_zero (p := p) (k := k)
    constructor
    · intro h j hj
      simp only [cnt] at h
      cases hp : p k with
      | true => rw [hp] at h; simp at h; omega
      | false =>
        rw [hp] at h
        have h0 : cnt p k = 0 := by simpa using h
        rcases Nat.lt_succ_iff_lt_or_eq.1 hj with h1 | h1
        · exact ih.1 h0 j h1
        · rw [h1]; exact hp
    · intro h
      simp only [cnt, h k (by omega)]
      rw [ih.2 fun j hj => h j (by omega)]; rfl
theorem firstN_neg {p : Nat → Bool} {N : Nat} : firstN p N = -1 ↔ cnt p N = 0 := by
  rw [cnt_zero]
  constructor
  · intro h j hj
    cases hp : p j with
    | false => rfl
    | true =>
      have hd : decide (0 ≤ firstN p N) = (List.range N).any p := firstIdx_any p _
      have ha : (List.range N).any p = true := List.any_eq_true.2 ⟨j, by simpa using hj, hp⟩
      rw [ha] at hd
      have := of_decide_eq_true hd
      omega
  · exact firstN_none
section
variable {s : Sch} {kind x a b : Int} {rest : List Int}
theorem chart_cons {s : Sch} (V : Valid s) (k : Nat) : ∃ f fs, chartL s k = f :: fs := by
  have h : (chartL s k).length = s.places.toNat := digits_len _ _ _
  have := V.places
  cases hc : chartL s k with
  | nil => rw [hc] at h; simp at h; omega
  | cons f fs => exact ⟨f, fs, rfl⟩
theorem inR_parts (V : Valid s) (h : Parts x a b) : ∃ q : Nat → Bool, ∀ k, inR s (a :: rest) k = (inR s (x :: rest) k && q k) ∧ inR s (b :: rest) k = (inR s (x :: rest) k && !q k) := by
  obtain ⟨q, hq⟩ := h.q
  refine ⟨fun k => q ((chartL s k).headD 0), fun k => ?_⟩
  obtain ⟨f, fs, hc⟩ := chart_cons V k
  simp only [inR, hc, hasB, List.headD_cons, (hq f).1, (hq f).2]
  cases bitB x f <;> cases q f <;> simp
theorem regB_parts (h : Parts x a b) (hr : regB s (x :: rest) = true) : regB s (a :: rest) = true ∧ regB s (b :: rest) = true := by
  simp only [regB, List.length_cons, List.all_cons, Bool.and_eq_true] at *
  exact ⟨⟨hr.1, h.fa _ hr.2.1, hr.2.2⟩, ⟨hr.1, h.fb _ hr.2.1, hr.2.2⟩⟩
/-- what Count finds of a region and of its parts -/
theorem count_parts (V : Valid s) (h : Parts x a b) : cnt (inR s (x :: rest)) (chartsC s) = cnt (inR s (a :: rest)) (chartsC s) + cnt (inR s (b :: rest)) (chartsC s) ∧
    cnt (silR s (x :: rest) kind) (chartsC s) = cnt (silR s (a :: rest) kind) (chartsC s) + cnt (silR s (b :: rest) kind) (chartsC s) ∧
    cnt (splR s (x :: rest) kind) (chartsC s) = cnt (splR s (a :: rest) kind) (chartsC s) + cnt (splR s (b :: rest) kind) (chartsC s) ∧
    ∀ i : Nat, cnt (saidR s (x :: rest) kind i) (chartsC s) = cnt (saidR s (a :: rest) kind i) (chartsC s) + cnt (saidR s (b :: rest) kind i) (chartsC s) := by
  obtain ⟨q, hq⟩ := inR_parts (rest := rest) V h
  refine ⟨cnt_two (fun k => ?_) (fun k => ?_) _, cnt_two (fun k => ?_) (fun k => ?_) _, cnt_two (fun k => ?_) (fun k => ?_) _, fun i => cnt_two (fun k => ?_) (fun k => ?_) _⟩
  all_goals
    simp only [silR, splR, saidR, (hq k).1, (hq k).2]
    generalize inR s (x :: rest) k = u
    generalize q k = v
  · cases u <;> cases v <;> rfl
  · cases u <;> cases v <;> rfl
  · generalize (kdAt s kind k == 2) = z; cases u <;> cases v <;> cases z <;> rfl
  · generalize (kdAt s kind k == 2) = z; cases u <;> cases v <;> cases z <;> rfl
  · generalize (kdAt s kind k == 3) = z; cases u <;> cases v <;> cases z <;> rfl
  · generalize (kdAt s kind k == 3) = z; cases u <;> cases v <;> cases z <;> rfl
  · generalize (ansL s kind k == [i]) = z; cases u <;> cases v <;> cases z <;> rfl
  · generalize (ansL s kind k == [i]) = z; cases u <;> cases v <;> cases z <;> rfl
end
/-- the charts of a region that are silent, split, or answered by one of the first i answers -/
def psR (s : Sch) (sets : List Int) (kind : Int) (i : Nat) (k : Nat) : Bool := inR s sets k && (kdAt s kind k == 2 || kdAt s kind k == 3 || (List.range i).any fun a => ansL s kind k == [a])
theorem psR_zero (s : Sch) (sets : List Int) (kind : Int) : cnt (psR s sets kind 0) (chartsC s) = cnt (silR s sets kind) (chartsC s) + cnt (splR s sets kind) (chartsC s) := by
  refine cnt_two (fun k => ?_) (fun k => ?_) _
  · simp only [psR, silR, splR, List.range_zero, List.any_nil, Bool.or_false]
    generalize inR s sets k = u
    generalize (kdAt s kind k == 2) = v
    generalize (kdAt s kind k == 3) = z
    cases u <;> cases v <;> cases z <;> rfl
  · simp only [silR, splR]
    rcases kindOf_cases (ansL s kind k) with h | h | h
    all_goals (have h' : kdAt s kind k = _ := h; rw [h']; cases inR s sets k <;> rfl)
theorem psR_succ (s : Sch) (sets : List Int) (kind : Int) (i : Nat) : cnt (psR s sets kind (i + 1)) (chartsC s) = cnt (psR s sets kind i) (chartsC s) + cnt (saidR s sets kind i) (chartsC s) := by
  refine cnt_two (fun k => ?_) (fun k => ?_) _
  · simp only [psR, saidR, List.range_succ, List.any_append, List.any_cons, List.any_nil, Bool.or_false]
    generalize inR s sets k = u
    generalize (kdAt s kind k == 2) = v
    generalize (kdAt s kind k == 3) = z
    generalize ((List.range i).any fun a => ansL s kind k == [a]) = y
    generalize (ansL s kind k == [i]) = t
    cases u <;> cases v <;> cases z <;> cases y <;> cases t <;> rfl
  · simp only [psR, saidR]
    cases ht : ansL s kind k == [i] with
    | false => simp
    | true =>
      have e : ansL s kind k = [i] := by simpa using ht
      have h' : kdAt s kind k = 1 := by unfold kdAt; rw [e]; rfl
      have hn : ((List.range i).any fun a => ansL s kind k == [a]) = false := by
        rw [Bool.eq_false_iff]; intro h
        obtain ⟨a, ha, hb⟩ := List.any_eq_true.1 h
        rw [e] at hb
        simp only [beq_iff_eq, List.cons.injEq, and_true] at hb
        have := List.mem_range.1 ha
        omega
      rw [h', hn]; simp
theorem psR_all {s : Sch} (V : Valid s) (sets : List Int) (kind : Int) : cnt (psR s sets kind s.answers.toNat) (chartsC s) = cnt (inR s sets) (chartsC s) := by
  congr 1
  funext k
  simp only [psR]
  rcases kindOf_cases (ansL s kind k) with h | h | h
  · have h' : kdAt s kind k = 2 := h
    rw [h']; simp
  · have h' : kdAt s kind k = 3 := h
    rw [h']; simp
  · obtain ⟨y, hy⟩ := kindOf_one h
    have hyp : ansOf s 0 kind (chartL s k) y = true := by
      have : y ∈ ansL s kind k := by rw [hy]; simp
      exact (List.mem_filter.1 this).2
    have hyl := saidTo_lt V _ hyp
    have : ((List.range s.answers.toNat).any fun a => ansL s kind k == [a]) = true := List.any_eq_true.2 ⟨y, by simpa using hyl, by simp [hy]⟩
    rw [this]; simp
theorem keepsI_one (s : Sch) (c : Clm) : (keepsI s [c] 0).1 = (if cnt (badC s c) (chartsC s) = 0 then -1 else 0) := by
  simp only [keepsI]
  by_cases h : cnt (badC s c) (chartsC s) = 0
  · have h1 := firstN_neg.2 h
    rw [if_neg (by omega), if_pos h]
  · have h1 : firstN (badC s c) (chartsC s) ≠ -1 := fun e => h (firstN_neg.1 e)
    have h2 : 0 ≤ firstN (badC s c) (chartsC s) := by
      rcases Int.lt_or_le (firstN (badC s c) (chartsC s)) 0 with h3 | h3
      · have := firstIdx_neg (p := badC s c) (l := List.range (chartsC s)) (by show ¬ 0 ≤ firstN _ _; omega)
        exact absurd this h1
      · exact h3
    rw [if_pos h2, if_neg h]; rfl
end Go.Proofs.Ytidlmbajpbbilaa

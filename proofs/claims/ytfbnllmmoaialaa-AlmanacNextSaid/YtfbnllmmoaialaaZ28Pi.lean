/- almanac, plain: a plan is the smallest list of days that may follow one another; where there is none, there is none. -/
import Derived.Test.YtfbnllmmoaialaaB18Pc
import Derived.Test.YtfbnllmmoaialaaB15Av
import Derived.Test.YtfbnllmmoaialaaB17Az
import Derived.Test.YtfbnllmmoaialaaZ22Hf
import Derived.Test.YtfbnllmmoaialaaZ27RfN
namespace Go.Proofs.Ytfbnllmmoaialaa

/-- some days follow one another, out of a list, behind a last one -/
def PlanOf (g0 g1 : Int) : List Int → Option Int → List Int → Prop
  | _, _, [] => True
  | l, last, p :: ps => ∃ l1 l2, l = l1 ++ p :: l2 ∧ nearB g0 g1 last p = true ∧ PlanOf g0 g1 l2 (some p) ps
theorem PlanOf.cons {g0 g1 d : Int} {l : List Int} {last : Option Int} {p : List Int} (h : PlanOf g0 g1 l last p) : PlanOf g0 g1 (d :: l) last p := by
  cases p with
  | nil => trivial
  | cons p ps =>
    obtain ⟨l1, l2, e, h1, h2⟩ := h
    exact ⟨d :: l1, l2, by rw [e]; rfl, h1, h2⟩
/-- a plan of a list either begins with its first day, or lies behind it -/
theorem planOf_cons {g0 g1 d : Int} {l : List Int} {last : Option Int} {p : Int} {ps : List Int} : PlanOf g0 g1 (d :: l) last (p :: ps) ↔ (p = d ∧ nearB g0 g1 last d = true ∧ PlanOf g0 g1 l (some d) ps) ∨ PlanOf g0 g1 l last (p :: ps) := by
  constructor
  · rintro ⟨l1, l2, e, h1, h2⟩
    cases l1 with
    | nil =>
      simp only [List.nil_append, List.cons.injEq] at e
      obtain ⟨rfl, rfl⟩ := e
      exact .inl ⟨rfl, h1, h2⟩
    | cons x l1 =>
      simp only [List.cons_append, List.cons.injEq] at e
      obtain ⟨rfl, rfl⟩ := e
      exact .inr ⟨l1, l2, rfl, h1, h2⟩
  · rintro (⟨rfl, h1, h2⟩ | h)
    · exact ⟨[], l, rfl, h1, h2⟩
    · exact h.cons
theorem bestOf_ge {g0 g1 d : Int} {k : Int} : ∀ (l cs : List Int), 1 ≤ k → (k ≤ bestOf g0 g1 d l cs ↔ ∃ y c, (y, c) ∈ l.zip cs ∧ inB (y - d) g0 g1 = true ∧ k ≤ c)
  | [], cs, hk => by
    simp [bestOf]; omega
  | y :: l, [], hk => by
    simp [bestOf]; omega
  | y :: l, c :: cs, hk => by
    have ih := bestOf_ge (g0 := g0) (g1 := g1) (d := d) l cs hk
    simp only [bestOf, List.zip_cons_cons, List.mem_cons, Prod.mk.injEq]
    cases hin : inB (y - d) g0 g1 with
    | false =>
      simp only [Bool.false_eq_true, if_false]
      rw [show k ≤ max 0 (bestOf g0 g1 d l cs) ↔ k ≤ bestOf g0 g1 d l cs by omega, ih]
      constructor
      · rintro ⟨a, b, h1, h2, h3⟩; exact ⟨a, b, .inr h1, h2, h3⟩
      · rintro ⟨a, b, h1, h2, h3⟩
        rcases h1 with ⟨rfl, rfl⟩ | h1
        · rw [hin] at h2; cases h2
        · exact ⟨a, b, h1, h2, h3⟩
    | true =>
      simp only [if_true]
      constructor
      · intro h
        rcases Int.le_total k c with h1 | h1
        · exact ⟨y, c, .inl ⟨rfl, rfl⟩, hin, h1⟩
        · by_cases h2 : k ≤ bestOf g0 g1 d l cs
          · obtain ⟨a, b, h3, h4, h5⟩ := ih.1 h2; exact ⟨a, b, .inr h3, h4, h5⟩
          · exact ⟨y, c, .inl ⟨rfl, rfl⟩, hin, by omega⟩
      · rintro ⟨a, b, h1, h2, h3⟩
        rcases h1 with ⟨rfl, rfl⟩ | h1
        · omega
        · have := ih.2 ⟨a, b, h1, h2, h3⟩; omega
theorem zip_cnts {g0 g1 T : Int} : ∀ (l : List Int) (y c : Int), (y, c) ∈ l.zip (cnts g0 g1 T l) ↔ ∃ l1 l2, l = l1 ++ y :: l2 ∧ c = min (bestOf g0 g1 y l2 (cnts g0 g1 T l2) + 1) T
  | [], y, c => by
    constructor
    · intro h; simp at h
    · rintro ⟨l1, l2, h, _⟩; simp at h
  | d :: l, y, c => by
    simp only [cnts, List.zip_cons_cons, List.mem_cons, Prod.mk.injEq]
    rw [zip_cnts l y c]
    constructor
    · rintro (⟨rfl, rfl⟩ | ⟨l1, l2, rfl, rfl⟩)
      · exact ⟨[], l, rfl, rfl⟩
      · exact ⟨d :: l1, l2, rfl, rfl⟩
    · rintro ⟨l1, l2, h, rfl⟩
      cases l1 with
      | nil =>
        simp only [List.nil_append, List.cons.injEq] at h
        obtain ⟨rfl, rfl⟩ := h
        exact .inl ⟨rfl, rfl⟩
      | cons x l1 =>
        simp only [List.cons_append, List.cons.injEq] at h
        obtain ⟨rfl, rfl⟩ := h
        exact .inr ⟨l1, l2, rfl, rfl⟩
/-- the number of a day tells how many turns there can be from it on -/
theorem cnts_plan {g0 g1 T : Int} : ∀ (n : Nat) (l : List Int), l.length ≤ n → ∀ (d : Int) (k : Nat), (k : Int) + 1 ≤ T → ((k : Int) + 1 ≤ min (bestOf g0 g1 d l (cnts g0 g1 T l) + 1) T ↔ ∃ ps : List Int, ps.length = k ∧ PlanOf g0 g1 l (some d) ps)
  | n, l, hn, d, 0, hk => by
    have := bestOf_nn g0 g1 d l (cnts g0 g1 T l)
    exact ⟨fun _ => ⟨[], rfl, trivial⟩, fun _ => by omega⟩
  | 0, l, hn, d, k + 1, hk => by
    have hl : l = [] := List.eq_nil_of_length_eq_zero (by omega)
    subst hl
    constructor
    · intro h; simp [bestOf] at h; omega
    · rintro ⟨ps, h1, h2⟩
      cases ps with
      | nil => cases h1
      | cons p ps => obtain ⟨l1, l2, e, _⟩ := h2; simp at e
  | n + 1, l, hn, d, k + 1, hk => by
    have e1 : (((k + 1 : Nat) : Int) + 1 ≤ min (bestOf g0 g1 d l (cnts g0 g1 T l) + 1) T) ↔ ((k : Int) + 1 ≤ bestOf g0 g1 d l (cnts g0 g1 T l)) := by omega
    rw [e1, bestOf_ge l (cnts g0 g1 T l) (by omega)]
    constructor
    · rintro ⟨y, c, h1, h2, h3⟩
      obtain ⟨l1, l2, rfl, rfl⟩ := (zip_cnts l y c).1 h1
      obtain ⟨ps, h4, h5⟩ := (cnts_plan n l2 (by simp at hn; omega) y k (by omega)).1 h3
      exact ⟨y :: ps, by simp [h4], l1, l2, rfl, h2, h5⟩
    · rintro ⟨ps, h1, h2⟩
      cases ps with
      | nil => cases h1
      | cons y ps =>
        obtain ⟨l1, l2, rfl, h3, h4⟩ := h2
        exact ⟨y, _, (zip_cnts _ _ _).2 ⟨l1, l2, rfl, rfl⟩, h3, (cnts_plan n l2 (by simp at hn; omega) y k (by omega)).2 ⟨ps, by simpa using h1, h4⟩⟩
/-- a list is no greater than the beginning of another one -/
def LeL : List Int → List Int → Prop
  | [], _ => True
  | _ :: _, [] => False
  | a :: l, b :: m => a < b ∨ (a = b ∧ LeL l m)
theorem planOf_mem {g0 g1 : Int} : ∀ {l : List Int} {last : Option Int} {p : List Int}, PlanOf g0 g1 l last p → ∀ x ∈ p, x ∈ l
  | l, last, [], _, x, hx => by cases hx
  | l, last, p :: ps, h, x, hx => by
    obtain ⟨l1, l2, rfl, _, h2⟩ := h
    rcases List.mem_cons.1 hx with rfl | hx
    · simp
    · have := planOf_mem h2 x hx
      simp [this]
/-- the plan that is found is the smallest one; where none is found there is none -/
theorem greedy_spec {g0 g1 T : Int} : ∀ (l : List Int) (last : Option Int) (k : Nat), (k : Int) ≤ T → l.Pairwise (· < ·) →
    (∀ p, greedy g0 g1 (l.zip (cnts g0 g1 T l)) last k = some p → PlanOf g0 g1 l last p ∧ p.length = k ∧ ∀ p', PlanOf g0 g1 l last p' → p'.length = k → LeL p p') ∧
    (greedy g0 g1 (l.zip (cnts g0 g1 T l)) last k = none → ∀ p', PlanOf g0 g1 l last p' → p'.length ≠ k)
  | l, last, 0, _, _ => by
    have e : greedy g0 g1 (l.zip (cnts g0 g1 T l)) last 0 = some [] := by cases l.zip (cnts g0 g1 T l) <;> rfl
    rw [e]
    exact ⟨fun p h => by cases h; exact ⟨trivial, rfl, fun _ _ _ => trivial⟩, fun h => by cases h⟩
  | [], last, k + 1, _, _ => by
    refine ⟨fun p h => by simp [greedy] at h, fun _ p' h1 h2 => ?_⟩
    cases p' with
    | nil => cases h2
    | cons p ps => obtain ⟨l1, l2, e, _⟩ := h1; simp at e
  | d :: l, last, k + 1, hk, hs => by
    obtain ⟨hs1, hs2⟩ := List.pairwise_cons.1 hs
    have hA := cnts_plan (g0 := g0) (g1 := g1) (T := T) l.length l (Nat.le_refl _) d k (by omega)
    obtain ⟨ih1, ih2⟩ := greedy_spec (g0 := g0) (g1 := g1) (T := T) l (some d) k (by omega) hs2
    obtain ⟨jh1, jh2⟩ := greedy_spec (g0 := g0) (g1 := g1) (T := T) l last (k + 1) hk hs2
    simp only [cnts, List.zip_cons_cons, greedy]
    cases hc : (decide ((k : Int) + 1 ≤ min (bestOf g0 g1 d l (cnts g0 g1 T l) + 1) T) && nearB g0 g1 last d) with
    | true =>
      simp only [Bool.and_eq_true, decide_eq_true_eq] at hc
      obtain ⟨hc1, hc2⟩ := hc
      obtain ⟨ps, hp1, hp2⟩ := hA.1 hc1
      simp only [if_true]
      cases hg : greedy g0 g1 (l.zip (cnts g0 g1 T l)) (some d) k with
      | none => exact absurd hp1 (ih2 hg ps hp2)
      | some q =>
        obtain ⟨a1, a2, a3⟩ := ih1 q hg
        refine ⟨fun p h => ?_, fun h => by simp at h⟩
        simp only [Option.map_some, Option.some.injEq] at h
        subst h
        refine ⟨⟨[], l, rfl, hc2, a1⟩, by simp [a2], fun p' h1 h2 => ?_⟩
        cases p' with
        | nil => cases h2
        | cons x ps' =>
          rcases planOf_cons.1 h1 with ⟨rfl, _, h3⟩ | h3
          · exact Or.inr ⟨rfl, a3 ps' h3 (by simpa using h2)⟩
          · exact Or.inl (hs1 x (planOf_mem h3 x (by simp)))
    | false =>
      simp only [Bool.false_eq_true, if_false]
      have hno : ∀ ps', ¬ (nearB g0 g1 last d = true ∧ PlanOf g0 g1 l (some d) ps' ∧ ps'.length = k) := fun ps' ⟨h1, h2, h3⟩ => by
        have h4 := hA.2 ⟨ps', h3, h2⟩
        rw [h1] at hc
        simp only [Bool.and_true, decide_eq_false_iff_not] at hc
        exact hc h4
      refine ⟨fun p h => ?_, fun h p' h1 h2 => ?_⟩
      · obtain ⟨a1, a2, a3⟩ := jh1 p h
        refine ⟨a1.cons, a2, fun p' h1 h2 => ?_⟩
        cases p' with
        | nil => cases h2
        | cons x ps' =>
          rcases planOf_cons.1 h1 with ⟨rfl, h3, h4⟩ | h3
          · exact absurd ⟨h3, h4, by simpa using h2⟩ (hno ps')
          · exact a3 _ h3 h2
      · cases p' with
        | nil => cases h2
        | cons x ps' =>
          rcases planOf_cons.1 h1 with ⟨rfl, h3, h4⟩ | h3
          · exact absurd ⟨h3, h4, by simpa using h2⟩ (hno ps')
          · exact jh2 h _ h3 h2
/-- what stands at the beginning of a plan is a plan -/
theorem planOf_take {g0 g1 : Int} : ∀ {l : List Int} {last : Option Int} {p : List Int} (n : Nat), PlanOf g0 g1 l last p → PlanOf g0 g1 l last (p.take n)
  | l, last, p, 0, _ => by rw [List.take_zero]; trivial
  | l, last, [], n + 1, h => h
  | l, last, p :: ps, n + 1, h => by
    obtain ⟨l1, l2, e, h1, h2⟩ := h
    exact ⟨l1, l2, e, h1, planOf_take n h2⟩
/-- the days of a plan are apart as they may be -/
theorem planOf_gap {g0 g1 : Int} : ∀ {l : List Int} {last : Option Int} {p : List Int}, PlanOf g0 g1 l last p → ∀ i (hi : i + 1 < p.length), inB (p[i + 1] - p[i]) g0 g1 = true
  | l, last, [], _, i, hi => by simp at hi
  | l, last, [p], _, i, hi => by simp at hi
  | l, last, p :: q :: ps, h, 0, hi => by
    obtain ⟨l1, l2, e, h1, l3, l4, e2, h3, h4⟩ := h
    exact h3
  | l, last, p :: q :: ps, h, i + 1, hi => by
    obtain ⟨l1, l2, e, h1, h2⟩ := h
    exact planOf_gap h2 i (by simpa using hi)
theorem leL_at {a b : List Int} (h : LeL a b) : ∀ i (hi : i < a.length), (∀ j (hj : j < i), a[j]? = b[j]?) → ∃ hb : i < b.length, a[i] ≤ b[i] := by
  induction a generalizing b with
  | nil => intro i hi; simp at hi
  | cons x a ih =>
    intro i hi heq
    cases b with
    | nil => cases h
    | cons y b =>
      cases i with
      | zero =>
        refine ⟨by simp, ?_⟩
        rcases h with h | ⟨h, _⟩
        · exact Int.le_of_lt h
        · exact Int.le_of_eq h
      | succ i =>
        have h0 := heq 0 (by omega)
        simp at h0
        rcases h with h | ⟨_, h⟩
        · omega
        · obtain ⟨h1, h2⟩ := ih h i (by simpa using hi) (fun j hj => by have := heq (j + 1) (by omega); simpa using this)
          exact ⟨by simpa using h1, h2⟩
end Go.Proofs.Ytfbnllmmoaialaa
namespace Go.Proofs.Ytfbnllmmoaialaa

theorem bothE_7 (x : Alm) (rs : List DRl) : bothE x rs ≠ 7 := by
  unfold bothE chkE
  split
  · split
    · decide
    · split <;> decide
  · decide
theorem planR_0 {x : Alm} {rs : List DRl} {s0 s1 g0 g1 T : Int} {P : List Int} (h : planR x rs s0 s1 g0 g1 T = (P, 0)) : bothE x rs = 0 ∧ okP s0 s1 g0 g1 T = true ∧ greedy g0 g1 ((spanL x rs s0 s1).zip (cnts g0 g1 T (spanL x rs s0 s1))) none T.toNat = some P := by
  unfold planR at h
  by_cases hb : bothE x rs = 0
  · rw [if_pos hb] at h
    cases ho : okP s0 s1 g0 g1 T with
    | false => rw [ho] at h; simp at h
    | true =>
      rw [ho] at h
      simp only [if_true] at h
      cases hg : greedy g0 g1 ((spanL x rs s0 s1).zip (cnts g0 g1 T (spanL x rs s0 s1))) none T.toNat with
      | none => rw [hg] at h; simp [planS] at h
      | some l => rw [hg] at h; simp [planS] at h; rw [h]; exact ⟨hb, rfl, rfl⟩
  · rw [if_neg hb] at h
    simp only [Prod.mk.injEq] at h
    exact absurd h.2 hb
theorem planR_n0 {x : Alm} {rs : List DRl} {s0 s1 g0 g1 T E : Int} {P : List Int} (h : planR x rs s0 s1 g0 g1 T = (P, E)) (hE : E ≠ 0) : P = [] := by
  unfold planR at h
  split at h
  · split at h
    · cases hg : greedy g0 g1 ((spanL x rs s0 s1).zip (cnts g0 g1 T (spanL x rs s0 s1))) none T.toNat with
      | none => rw [hg] at h; simp [planS] at h; exact h.1
      | some l => rw [hg] at h; simp [planS] at h; exact absurd h.2.symm hE
    · simp at h; exact h.1
  · simp at h; exact h.1
theorem planR_7 {x : Alm} {rs : List DRl} {s0 s1 g0 g1 T : Int} {P : List Int} (h : planR x rs s0 s1 g0 g1 T = (P, 7)) : bothE x rs = 0 ∧ okP s0 s1 g0 g1 T = true ∧ greedy g0 g1 ((spanL x rs s0 s1).zip (cnts g0 g1 T (spanL x rs s0 s1))) none T.toNat = none := by
  unfold planR at h
  by_cases hb : bothE x rs = 0
  · rw [if_pos hb] at h
    cases ho : okP s0 s1 g0 g1 T with
    | false => rw [ho] at h; simp at h
    | true =>
      rw [ho] at h
      simp only [if_true] at h
      cases hg : greedy g0 g1 ((spanL x rs s0 s1).zip (cnts g0 g1 T (spanL x rs s0 s1))) none T.toNat with
      | none => exact ⟨hb, rfl, rfl⟩
      | some l => rw [hg] at h; simp [planS] at h
  · rw [if_neg hb] at h
    simp only [Prod.mk.injEq] at h
    exact absurd h.2 (bothE_7 x rs)
theorem okP_iff {s0 s1 g0 g1 T : Int} : okP s0 s1 g0 g1 T = true ↔ spanB s0 s1 = true ∧ 1 ≤ g0 ∧ g0 ≤ g1 ∧ g1 ≤ 4000 ∧ 1 ≤ T ∧ T ≤ 60 := by
  simp [okP, inB]
theorem spanL_sorted (x : Alm) (rs : List DRl) (a b : Int) : (spanL x rs a b).Pairwise (· < ·) := daysL_sorted x _ a b
theorem spanL_mem {x : Alm} {rs : List DRl} {a b d : Int} (h : d ∈ spanL x rs a b) : a ≤ d ∧ d ≤ b ∧ allowB x rs d = true := by
  obtain ⟨h1, h2⟩ := daysL_bd x _ a b d h
  refine ⟨h1, h2, ?_⟩
  unfold spanL daysL daysN at h
  have := (List.mem_filter.1 h).2
  simpa [allB] using this
/-- with one turn more there is no plan either -/
theorem plan_more {x : Alm} {rs : List DRl} {s0 s1 g0 g1 T : Int} {P : List Int} (h : planR x rs s0 s1 g0 g1 T = (P, 7)) (hT : T < 60) : planR x rs s0 s1 g0 g1 (T + 1) = ([], 7) := by
  obtain ⟨hb, ho, hg⟩ := planR_7 h
  obtain ⟨o1, o2, o3, o4, o5, o6⟩ := okP_iff.1 ho
  have ho2 : okP s0 s1 g0 g1 (T + 1) = true := okP_iff.2 ⟨o1, o2, o3, o4, by omega, by omega⟩
  obtain ⟨-, q2⟩ := greedy_spec (g0 := g0) (g1 := g1) (T := T) (spanL x rs s0 s1) none T.toNat (by omega) (spanL_sorted x rs s0 s1)
  obtain ⟨r1, -⟩ := greedy_spec (g0 := g0) (g1 := g1) (T := T + 1) (spanL x rs s0 s1) none (T + 1).toNat (by omega) (spanL_sorted x rs s0 s1)
  unfold planR
  rw [if_pos hb, ho2]
  simp only [if_true]
  cases hg2 : greedy g0 g1 ((spanL x rs s0 s1).zip (cnts g0 g1 (T + 1) (spanL x rs s0 s1))) none (T + 1).toNat with
  | none => rfl
  | some p =>
    obtain ⟨h1, h2, -⟩ := r1 p hg2
    exact absurd (by rw [List.length_take, h2]; omega) (q2 hg _ (planOf_take T.toNat h1))
/-- what a plan says -/
structure PlanOk (x : Alm) (rs : List DRl) (s0 s1 g0 g1 T : Int) (P : List Int) : Prop where
  both : bothE x rs = 0
  span : spanB s0 s1 = true
  gaps : 1 ≤ g0 ∧ g0 ≤ g1 ∧ g1 ≤ 4000
  turns : 1 ≤ T ∧ T ≤ 60
  len : (P.length : Int) = T
  day : ∀ d ∈ P, s0 ≤ d ∧ d ≤ s1 ∧ allowB x rs d = true
  gap : ∀ i (hi : i + 1 < P.length), inB (P[i + 1] - P[i]) g0 g1 = true
theorem plan_okP {x : Alm} {rs : List DRl} {s0 s1 g0 g1 T : Int} {P : List Int} (h : planR x rs s0 s1 g0 g1 T = (P, 0)) : PlanOk x rs s0 s1 g0 g1 T P := by
  obtain ⟨hb, ho, hg⟩ := planR_0 h
  obtain ⟨o1, o2, o3, o4, o5, o6⟩ := okP_iff.1 ho
  obtain ⟨q1, -⟩ := greedy_spec (g0 := g0) (g1 := g1) (T := T) (spanL x rs s0 s1) none T.toNat (by omega) (spanL_sorted x rs s0 s1)
  obtain ⟨h1, h2, -⟩ := q1 P hg
  exact ⟨hb, o1, ⟨o2, o3, o4⟩, ⟨o5, o6⟩, by omega, fun d hd => spanL_mem (planOf_mem h1 d hd), planOf_gap h1⟩
/-- one turn: the next allowed day -/
theorem plan_one {x : Alm} {rs : List DRl} {s0 s1 g0 g1 : Int} {P : List Int} (h : planR x rs s0 s1 g0 g1 1 = (P, 0)) : ∃ d, P = [d] ∧ nextR x rs s0 s1 = (d, 0) := by
  obtain ⟨hb, ho, hg⟩ := planR_0 h
  obtain ⟨o1, -⟩ := okP_iff.1 ho
  obtain ⟨q1, -⟩ := greedy_spec (g0 := g0) (g1 := g1) (T := 1) (spanL x rs s0 s1) none 1 (by omega) (spanL_sorted x rs s0 s1)
  obtain ⟨h1, h2, h3⟩ := q1 P hg
  have hn : nextR x rs s0 s1 = firstR (spanL x rs s0 s1) := by unfold nextR; rw [if_pos hb, o1]; rfl
  match P, h2 with
  | [d], _ =>
    refine ⟨d, rfl, ?_⟩
    have hm := planOf_mem h1 d (by simp)
    have hs := spanL_sorted x rs s0 s1
    rw [hn]
    cases hl : spanL x rs s0 s1 with
    | nil => rw [hl] at hm; cases hm
    | cons a l =>
      rw [hl] at hm h3 hs
      have h4 := h3 [a] ⟨[], l, rfl, rfl, trivial⟩ rfl
      obtain ⟨hs1, -⟩ := List.pairwise_cons.1 hs
      have h5 : d ≤ a := by
        rcases h4 with h4 | ⟨h4, _⟩
        · exact Int.le_of_lt h4
        · exact Int.le_of_eq h4
      have h6 : d = a := by
        rcases List.mem_cons.1 hm with h | h
        · exact h
        · have := hs1 d h; omega
      rw [h6]; rfl
/-- with one turn less there is a plan no greater than the beginning -/
theorem plan_less {x : Alm} {rs : List DRl} {s0 s1 g0 g1 T : Int} {P : List Int} (h : planR x rs s0 s1 g0 g1 T = (P, 0)) (hT : T ≠ 1) : ∃ P2, planR x rs s0 s1 g0 g1 (T - 1) = (P2, 0) ∧ (P2.length : Int) = T - 1 ∧ LeL P2 (P.take (T - 1).toNat) := by
  obtain ⟨hb, ho, hg⟩ := planR_0 h
  obtain ⟨o1, o2, o3, o4, o5, o6⟩ := okP_iff.1 ho
  have ho2 : okP s0 s1 g0 g1 (T - 1) = true := okP_iff.2 ⟨o1, o2, o3, o4, by omega, by omega⟩
  obtain ⟨q1, -⟩ := greedy_spec (g0 := g0) (g1 := g1) (T := T) (spanL x rs s0 s1) none T.toNat (by omega) (spanL_sorted x rs s0 s1)
  obtain ⟨h1, h2, -⟩ := q1 P hg
  obtain ⟨r1, r2⟩ := greedy_spec (g0 := g0) (g1 := g1) (T := T - 1) (spanL x rs s0 s1) none (T - 1).toNat (by omega) (spanL_sorted x rs s0 s1)
  have hp := planOf_take (T - 1).toNat h1
  have hpl : (P.take (T - 1).toNat).length = (T - 1).toNat := by rw [List.length_take, h2]; omega
  cases hg2 : greedy g0 g1 ((spanL x rs s0 s1).zip (cnts g0 g1 (T - 1) (spanL x rs s0 s1))) none (T - 1).toNat with
  | none => exact absurd hpl (r2 hg2 _ hp)
  | some p =>
    obtain ⟨a1, a2, a3⟩ := r1 p hg2
    refine ⟨p, ?_, by omega, a3 _ hp hpl⟩
    unfold planR
    rw [if_pos hb, ho2]
    simp only [if_true, hg2]
    rfl
end Go.Proofs.Ytfbnllmmoaialaa
namespace Go.Proofs.Ytfbnllmmoaialaa

/-- a rule at the end that applies to all days -/
abbrev lastR (v : Bool) : DRl := ⟨none, 0, [], v⟩
theorem allB_one (x : Alm) (rs : List DRl) (day : Int) : allB x [⟨none, 0, rs⟩] day = allowB x rs day := by simp [allB]
theorem decI_last (x : Alm) (rs : List DRl) (v : Bool) (day : Int) : decI x (rs ++ [lastR v]) day = rs.length := by
  unfold decI
  rw [List.length_append, List.length_singleton]
  simp [lastTo, applB]
theorem allowB_last (x : Alm) (rs : List DRl) (v : Bool) (day : Int) : allowB x (rs ++ [lastR v]) day = v := by
  unfold allowB
  rw [decI_last]
  simp
theorem bothE_last {x : Alm} {rs : List DRl} (h : bothE x rs = 0) (hl : rs.length ≤ 29) (v : Bool) : bothE x (rs ++ [lastR v]) = 0 := by
  obtain ⟨h1, h2, h3⟩ := bothE_zero h
  unfold bothE chkE
  rw [h1]
  simp only [if_true]
  rw [if_neg (by simp; omega), if_neg]
  rw [List.any_append]
  have e1 : rs.any (badR x.cycles) = false := by
    rw [List.any_eq_false]
    intro r hr
    rw [h3 r hr]; decide
  rw [e1]
  simp [badR]
theorem spanL_all {x : Alm} {rs : List DRl} {a b : Int} (h : ∀ d, allowB x rs d = true) : (spanL x rs a b).length = (b + 1 - a).toNat := by
  unfold spanL daysL daysN
  rw [List.filter_eq_self.2]
  · simp
  · intro d _
    rw [allB_one]; exact h d
theorem spanL_none {x : Alm} {rs : List DRl} {a b : Int} (h : ∀ d, allowB x rs d = false) : spanL x rs a b = [] := by
  unfold spanL daysL daysN
  rw [List.filter_eq_nil_iff]
  intro d _
  rw [allB_one, h d]; decide
theorem spanL_split (x : Alm) (rs : List DRl) {a m b : Int} (h1 : a ≤ m) (h2 : m < b) : spanL x rs a b = spanL x rs a m ++ spanL x rs (m + 1) b := by
  unfold spanL daysL daysN
  rw [← List.filter_append]
  congr 1
  obtain ⟨p, hp⟩ : ∃ p : Nat, p = (m + 1 - a).toNat := ⟨_, rfl⟩
  obtain ⟨q, hq⟩ : ∃ q : Nat, q = (b + 1 - (m + 1)).toNat := ⟨_, rfl⟩
  rw [← hp, ← hq, show (b + 1 - a).toNat = p + q by omega, List.range_add, List.map_append, List.map_map]
  congr 1
  refine List.map_congr_left fun i _ => ?_
  simp only [Function.comp]
  omega
theorem nextR_ok {x : Alm} {rs : List DRl} {a b : Int} (h : bothE x rs = 0) (hs : spanB a b = true) : nextR x rs a b = firstR (spanL x rs a b) ∧ countR x rs a b = (((spanL x rs a b).length : Int), 0) := by
  unfold nextR countR
  rw [if_pos h, if_pos h, hs]
  exact ⟨rfl, rfl⟩
theorem nextR_er {x : Alm} {rs : List DRl} {a b : Int} (h : bothE x rs ≠ 0) : nextR x rs a b = (0, bothE x rs) ∧ countR x rs a b = (0, bothE x rs) := by
  unfold nextR countR
  rw [if_neg h, if_neg h]
  exact ⟨rfl, rfl⟩
/-- the first of some days, or -1 -/
def firstI : List Int → Int
  | [] => -1
  | d :: _ => d
theorem firstI_snoc (l : List Int) (d : Int) : firstI (l ++ [d]) = if l = [] then d else firstI l := by
  cases l <;> simp [firstI]
theorem firstI_neg {x : Alm} {rs : List DRl} {a b : Int} (ha : 0 ≤ a) : (spanL x rs a b = [] ∧ firstI (spanL x rs a b) = -1 ∧ firstR (spanL x rs a b) = (0, 7)) ∨ (∃ d, 0 ≤ d ∧ firstI (spanL x rs a b) = d ∧ firstR (spanL x rs a b) = (d, 0)) := by
  have hm : ∀ d ∈ spanL x rs a b, a ≤ d := fun d hd => (spanL_mem hd).1
  cases hl : spanL x rs a b with
  | nil => exact .inl ⟨rfl, rfl, rfl⟩
  | cons d l => rw [hl] at hm; exact .inr ⟨d, by have := hm d (by simp); omega, rfl, rfl⟩
theorem daysN_one (x : Alm) (rs : List DRl) (a : Int) (n : Nat) : daysN x [⟨none, 0, rs⟩] a (n + 1) = daysN x [⟨none, 0, rs⟩] a n ++ (if allowB x rs (a + n) then [a + n] else []) := by
  rw [daysN_succ, allB_one]
end Go.Proofs.Ytfbnllmmoaialaa
namespace Go.Proofs.Ytfbnllmmoaialaa

/-- the error of the first rules that are refused -/
def chkP (cs : List Cyc) : List DPs → Int
  | [] => 0
  | p :: ps => if chkE cs p.rules = 0 then chkP cs ps else chkE cs p.rules
/-- the error of an almanac and persons -/
def comE (x : Alm) (ps : List DPs) : Int := if almB x then (if 10 < ps.length then 5 else chkP x.cycles ps) else 2
def comR (x : Alm) (ps : List DPs) (a b : Int) : Int × Int := if comE x ps = 0 then (if spanB a b then firstR (daysL x ps a b) else (0, 3)) else (0, comE x ps)
theorem chkP_app (cs : List Cyc) (q : List DPs) : ∀ p : List DPs, chkP cs (p ++ q) = if chkP cs p = 0 then chkP cs q else chkP cs p
  | [] => by simp [chkP]
  | x :: p => by
    have e : ∀ l, chkP cs (x :: l) = if chkE cs x.rules = 0 then chkP cs l else chkE cs x.rules := fun _ => rfl
    have ih := chkP_app cs q p
    by_cases h : chkE cs x.rules = 0
    · have e1 : ∀ l, chkP cs (x :: l) = chkP cs l := fun l => by rw [e, if_pos h]
      rw [List.cons_append, e1, e1]; exact ih
    · have e1 : ∀ l, chkP cs (x :: l) = chkE cs x.rules := fun l => by rw [e, if_neg h]
      rw [List.cons_append, e1, e1, if_neg h]
theorem chkP_zero {cs : List Cyc} : ∀ {p : List DPs}, chkP cs p = 0 → ∀ x ∈ p, chkE cs x.rules = 0
  | [], _, x, hx => by cases hx
  | y :: p, h, x, hx => by
    simp only [chkP] at h
    by_cases h0 : chkE cs y.rules = 0
    · rw [if_pos h0] at h
      rcases List.mem_cons.1 hx with rfl | hx
      · exact h0
      · exact chkP_zero h x hx
    · rw [if_neg h0] at h; exact absurd h h0
theorem chkP_all {cs : List Cyc} : ∀ {p : List DPs}, (∀ x ∈ p, chkE cs x.rules = 0) → chkP cs p = 0
  | [], _ => rfl
  | y :: p, h => by
    simp only [chkP]
    rw [if_pos (h y (by simp))]
    exact chkP_all fun x hx => h x (by simp [hx])
theorem chkE_7 (cs : List Cyc) (rs : List DRl) : chkE cs rs ≠ 7 ∧ chkE cs rs ≠ 3 := by
  unfold chkE
  split
  · decide
  · split <;> decide
theorem chkP_7 (cs : List Cyc) : ∀ p : List DPs, chkP cs p ≠ 7
  | [] => by simp [chkP]
  | x :: p => by
    simp only [chkP]
    split
    · exact chkP_7 cs p
    · exact (chkE_7 cs _).1
theorem comE_7 (x : Alm) (ps : List DPs) : comE x ps ≠ 7 := by
  unfold comE
  split
  · split
    · decide
    · exact chkP_7 _ _
  · decide
theorem comE_zero {x : Alm} {ps : List DPs} (h : comE x ps = 0) : almB x = true ∧ ps.length ≤ 10 ∧ ∀ p ∈ ps, chkE x.cycles p.rules = 0 := by
  unfold comE at h
  cases hx : almB x with
  | false => rw [hx] at h; simp at h
  | true =>
    rw [hx] at h
    simp only [if_true] at h
    by_cases h1 : 10 < ps.length
    · rw [if_pos h1] at h; simp at h
    · rw [if_neg h1] at h; exact ⟨rfl, by omega, chkP_zero h⟩
theorem chkE_bad {cs : List Cyc} {rs : List DRl} (h : chkE cs rs = 0) : ∀ r ∈ rs, badR cs r = false := by
  unfold chkE at h
  split at h
  · cases h
  · split at h
    · cases h
    · rename_i h2
      have h3 : rs.any (badR cs) = false := by simpa using h2
      rw [List.any_eq_false] at h3
      intro r hr
      simpa using h3 r hr
/-- with a person twice nothing is changed -/
theorem comR_twice {x : Alm} {p : DPs} {ps : List DPs} {q : DPs} (hq : q.rules.map DRl.pl = p.rules.map DRl.pl) (a b : Int) (hl : (p :: ps).length ≤ 9) : comR x (p :: ps ++ [q]) a b = comR x (p :: ps) a b := by
  have hqe : chkE x.cycles q.rules = chkE x.cycles p.rules := chkE_pl _ hq
  have e1 : comE x (p :: ps ++ [q]) = comE x (p :: ps) := by
    unfold comE
    rw [if_neg (show ¬ 10 < (p :: ps ++ [q]).length by simp at hl ⊢; omega), if_neg (show ¬ 10 < (p :: ps).length by omega), chkP_app]
    by_cases h : chkP x.cycles (p :: ps) = 0
    · rw [if_pos h]
      simp only [chkP]
      have h0 := chkP_zero h p (by simp)
      rw [hqe, if_pos h0]
      have : chkP x.cycles (p :: ps) = 0 := h
      simp only [chkP, if_pos h0] at this
      rw [if_pos h0, this]
    · rw [if_neg h]
  have e2 : daysL x (p :: ps ++ [q]) a b = daysL x (p :: ps) a b := by
    unfold daysL daysN
    congr 1
    funext d
    unfold allB
    rw [List.all_append]
    have hd : allowB x q.rules d = allowB x p.rules d := allowB_cong (x := x) (A := x.a) (c := x.c) hq d
    simp only [List.all_cons, List.all_nil, Bool.and_true, hd]
    cases allowB x p.rules d <;> simp
  unfold comR
  rw [e1, e2]
theorem firstR_mem {l : List Int} {n : Int} (h : firstR l = (n, 0)) : n ∈ l := by
  cases l with
  | nil => simp [firstR] at h
  | cons d l => simp [firstR] at h; simp [h]
theorem firstR_e (l : List Int) : (firstR l).2 = 0 ∨ firstR l = (0, 7) := by
  cases l with
  | nil => exact .inr rfl
  | cons d l => exact .inl rfl
theorem daysL_mem {x : Alm} {ps : List DPs} {a b d : Int} : d ∈ daysL x ps a b ↔ a ≤ d ∧ d ≤ b ∧ allB x ps d = true := by
  constructor
  · intro h
    obtain ⟨h1, h2⟩ := daysL_bd x ps a b d h
    unfold daysL daysN at h
    exact ⟨h1, h2, (List.mem_filter.1 h).2⟩
  · rintro ⟨h1, h2, h3⟩
    unfold daysL daysN
    refine List.mem_filter.2 ⟨?_, h3⟩
    simp only [List.mem_map, List.mem_range]
    exact ⟨(d - a).toNat, by omega, by omega⟩
theorem firstR_le {x : Alm} {ps : List DPs} {a b n : Int} (h : firstR (daysL x ps a b) = (n, 0)) : ∀ d ∈ daysL x ps a b, n ≤ d := by
  have hs := daysL_sorted x ps a b
  cases hl : daysL x ps a b with
  | nil => intro d hd; cases hd
  | cons y l =>
    rw [hl] at h hs
    simp only [firstR, Prod.mk.injEq] at h
    obtain ⟨rfl, -⟩ := h
    intro d hd
    rcases List.mem_cons.1 hd with rfl | hd
    · exact Int.le_refl _
    · exact Int.le_of_lt ((List.pairwise_cons.1 hs).1 d hd)
/-- what Common says -/
theorem comR_0 {x : Alm} {ps : List DPs} {a b n : Int} (h : comR x ps a b = (n, 0)) : comE x ps = 0 ∧ spanB a b = true ∧ firstR (daysL x ps a b) = (n, 0) := by
  unfold comR at h
  split at h
  · rename_i h0
    split at h
    · exact ⟨h0, by assumption, h⟩
    · simp at h
  · rename_i h0; simp at h; exact absurd h.2 h0
theorem comR_7 {x : Alm} {ps : List DPs} {a b n : Int} (h : comR x ps a b = (n, 7)) : n = 0 ∧ comE x ps = 0 ∧ spanB a b = true := by
  unfold comR at h
  split at h
  · rename_i h0
    split at h
    · rcases firstR_e (daysL x ps a b) with h1 | h1
      · rw [h] at h1; cases h1
      · rw [h] at h1; simp at h1; exact ⟨h1, h0, by assumption⟩
    · simp at h
  · simp at h; exact absurd h.2 (comE_7 x ps)
theorem comR_n0 {x : Alm} {ps : List DPs} {a b n e : Int} (h : comR x ps a b = (n, e)) (he : e ≠ 0) : n = 0 := by
  unfold comR at h
  split at h
  · split at h
    · rcases firstR_e (daysL x ps a b) with h1 | h1
      · rw [h] at h1; exact absurd h1 he
      · rw [h] at h1; simp at h1; exact h1.1
    · simp at h; exact h.1.symm
  · simp at h; exact h.1.symm
theorem comE_tail {x : Alm} {p : DPs} {ps : List DPs} (h : comE x (p :: ps) = 0) : comE x ps = 0 := by
  obtain ⟨h1, h2, h3⟩ := comE_zero h
  unfold comE
  rw [h1]
  simp only [if_true]
  rw [if_neg (by simp at h2; omega)]
  exact chkP_all fun q hq => h3 q (by simp [hq])
/-- with one person less: some day, or none -/
theorem comR_tail7 {x : Alm} {p : DPs} {ps : List DPs} {a b n m f : Int} (h : comR x (p :: ps) a b = (n, 7)) (hm : comR x ps a b = (m, f)) : f = 0 ∨ f = 7 := by
  obtain ⟨-, h1, h2⟩ := comR_7 h
  unfold comR at hm
  rw [if_pos (comE_tail h1), h2] at hm
  simp only [if_true] at hm
  rcases firstR_e (daysL x ps a b) with h3 | h3
  · rw [hm] at h3; exact .inl h3
  · rw [hm] at h3; simp at h3; exact .inr h3.2
/-- the day suits each of the persons, and without one of them it is no later -/
theorem comR_ok {x : Alm} {p : DPs} {ps : List DPs} {a b n m f : Int} (h : comR x (p :: ps) a b = (n, 0)) (hm : comR x ps a b = (m, f)) : f = 0 ∧ m ≤ n ∧ a ≤ n ∧ n ≤ b ∧ ∀ q ∈ p :: ps, ∃ i, allowedR x q.rules n = (true, i, 0) := by
  obtain ⟨h0, h1, h2⟩ := comR_0 h
  obtain ⟨g1, g2, g3⟩ := daysL_mem.1 (firstR_mem h2)
  obtain ⟨c1, c2, c3⟩ := comE_zero h0
  obtain ⟨⟨s1, s2⟩, ⟨s3, s4⟩, s5, s6⟩ := spanB_iff.1 h1
  unfold comR at hm
  rw [if_pos (comE_tail h0), h1] at hm
  simp only [if_true] at hm
  have hall : allB x ps n = true := by
    unfold allB at g3 ⊢
    rw [List.all_cons, Bool.and_eq_true] at g3
    exact g3.2
  have hmem : n ∈ daysL x ps a b := daysL_mem.2 ⟨g1, g2, hall⟩
  have hf : f = 0 := by
    rcases firstR_e (daysL x ps a b) with h3 | h3
    · rw [hm] at h3; exact h3
    · cases hl : daysL x ps a b with
      | nil => rw [hl] at hmem; cases hmem
      | cons y l => rw [hl] at h3; simp [firstR] at h3
  subst hf
  refine ⟨rfl, firstR_le hm n hmem, g1, g2, fun q hq => ⟨decI x q.rules n, ?_⟩⟩
  have hq2 : allowB x q.rules n = true := by
    unfold allB at g3
    rw [List.all_eq_true] at g3
    exact g3 q hq
  unfold allowedR
  have hb : bothE x q.rules = 0 := by unfold bothE; rw [c1]; exact c3 q hq
  rw [if_pos hb, hq2, show inB n 0 1000000 = true from inB_iff.2 ⟨by omega, by omega⟩]
  rfl
end Go.Proofs.Ytfbnllmmoaialaa
namespace Go.Proofs.Ytfbnllmmoaialaa
open Go.RowKit

theorem uPersons : Try.prog.underlying 49 = some (.slice 29) := by kernel_rfl
theorem infoRls : (Try.prog.info? 29).map (fun i => (i.zero, i.size, i.bytes)) = some (some (.slice none 0 0), 1, 24) := by kernel_rfl
/-- persons whose rules came in -/
structure PsW (W : World) (B : Nat) (A : Option Addr) (ps : List DPs) : Prop where
  sl : Sl DPs.cells 1 W B A ps
  rul : ∀ p ∈ ps, RlsW W B p.a p.rules ∧ (p.a = none → p.c = 0)
/-- a person without addresses -/
def DPs.pl (p : DPs) : List DRl := p.rules.map DRl.pl
/-- a person's rules lie in rows of their own -/
structure RowP (W : World) (p : DPs) : Prop where
  row : W.ownsRow 0 83 2 (.slice p.a p.rules.length p.c) p.rules.length (flat DRl.cells p.rules)
  rul : ∀ r ∈ p.rules, RowD W r
  len : p.rules.length ≤ 1000000
theorem RowP.grown {W W' : World} {p : DPs} (h : RowP W p) {row : Option Nat} (hg : W.grownBy W' row) (hr : ∀ v : Value, (∃ n xs, W.ownsRow 0 83 2 v n xs) → v.ownBlock = none ∨ v.ownBlock ≠ row) (hr2 : ∀ v : Value, (∃ n xs, W.ownsRow 0 126 5 v n xs) → v.ownBlock = none ∨ v.ownBlock ≠ row) : RowP W' p :=
  ⟨h.row.kept hg (hr _ ⟨_, _, h.row⟩), fun r m => (h.rul r m).grown hg hr2, h.len⟩
theorem RowP.below {W W' : World} {p : DPs} (h : RowP W p) (hb : Below W.heap.size W W') : RowP W' p :=
  h.grown (grown_none hb) (fun v _ => by cases hv : v.ownBlock <;> simp) (fun v _ => by cases hv : v.ownBlock <;> simp)
theorem RowP.rls {W : World} {p : DPs} (h : RowP W p) : RlsAt W W.heap.size p.a p.rules := by
  obtain ⟨A, c, e, hs⟩ := Sl.of_own h.row
  have e2 : p.a = A ∧ p.c = c := by simpa using e
  exact ⟨h.len, by rw [e2.1]; exact hs, fun r hr => (h.rul r hr).rul⟩
/-- persons whose rules lie in rows of their own, in a row that is owned -/
structure PsO (W : World) (base : Nat) (v : Value) (ps : List DPs) : Prop where
  own : W.ownsRow base 29 1 v ps.length (flat DPs.cells ps)
  rows : ∀ p ∈ ps, RowP W p
theorem PsO.below {W W' : World} {base : Nat} {v : Value} {ps : List DPs} (h : PsO W base v ps) (hb : Below W.heap.size W W') : PsO W' base v ps :=
  ⟨h.own.kept (grown_none hb) (by cases hv : v.ownBlock <;> simp), fun p hp => (h.rows p hp).below hb⟩
theorem PsO.psA {W : World} {base c : Nat} {A : Option Addr} {ps : List DPs} (h : PsO W base (.slice A ps.length c) ps) (hl : ps.length ≤ 1000000) : PsA W W.heap.size A ps := by
  obtain ⟨A', c', e, hs⟩ := Sl.of_own h.own
  have e2 : A = A' ∧ c = c' := by simpa using e
  exact ⟨hl, by rw [e2.1]; exact hs, fun p hp => (h.rows p hp).rls⟩
/-- a person more -/
theorem PsO.append {W w5 : World} {base : Nat} {v v' : Value} {ps : List DPs} {q : DPs} (h : PsO W base v ps) (hq : RowP W q) (hown : w5.ownsRow base 29 1 v' (ps.length + 1) (flat DPs.cells ps ++ [.slice q.a q.rules.length q.c])) (hg : W.grownBy w5 v.ownBlock) : PsO w5 base v' (ps ++ [q]) := by
  have hA : ∀ p : DPs, RowP W p → RowP w5 p := fun p hp => hp.grown hg (fun u ⟨n', xs', h'⟩ => ownsRow_apart h' h.own (by decide)) (fun u ⟨n', xs', h'⟩ => ownsRow_apart h' h.own (by decide))
  refine ⟨?_, fun p hp => ?_⟩
  · rw [List.length_append, List.length_singleton, show flat DPs.cells (ps ++ [q]) = flat DPs.cells ps ++ [.slice q.a q.rules.length q.c] by simp [flat, DPs.cells]]
    exact hown
  · rcases List.mem_append.1 hp with hp | hp
    · exact hA p (h.rows p hp)
    · rw [List.mem_singleton.1 hp]; exact hA q hq
theorem rowP_of {W : World} {base c : Nat} {A : Option Addr} {l : List DRl} (h1 : Hid (W.ownsRow base 83 2 (.slice A l.length c) l.length (flat DRl.cells l))) (h2 : ∀ r ∈ l, RowD W r) (hl : l.length ≤ 1000000) : RowP W ⟨A, c, l⟩ := ⟨own_mono h1.out, h2, hl⟩
/-- what Common says does not hang on addresses -/
theorem pl_chk {cs : List Cyc} : ∀ {l l' : List DPs}, l'.map DPs.pl = l.map DPs.pl → chkP cs l' = chkP cs l
  | [], [], _ => rfl
  | [], _ :: _, h => by simp at h
  | _ :: _, [], h => by simp at h
  | p :: l, p' :: l', h => by
    simp only [List.map_cons, List.cons.injEq] at h
    have h1 : chkE cs p'.rules = chkE cs p.rules := chkE_pl cs h.1
    simp only [chkP, h1, pl_chk h.2]
theorem pl_all {x : Alm} {A : Option Addr} {c : Nat} {day : Int} : ∀ {l l' : List DPs}, l'.map DPs.pl = l.map DPs.pl → allB (x.at_ A c) l' day = allB x l day
  | [], [], _ => rfl
  | [], _ :: _, h => by simp at h
  | _ :: _, [], h => by simp at h
  | p :: l, p' :: l', h => by
    simp only [List.map_cons, List.cons.injEq] at h
    have h1 : allowB (x.at_ A c) p'.rules day = allowB x p.rules day := allowB_cong h.1 day
    have h2 := pl_all (x := x) (A := A) (c := c) (day := day) h.2
    unfold allB at h2 ⊢
    simp only [List.all_cons, h1, h2]
theorem pl_len {l l' : List DPs} (h : l'.map DPs.pl = l.map DPs.pl) : l'.length = l.length := by
  have := congrArg List.length h
  simpa using this
theorem comR_cong {x : Alm} {A : Option Addr} {c : Nat} {l l' : List DPs} (h : l'.map DPs.pl = l.map DPs.pl) (a b : Int) : comR (x.at_ A c) l' a b = comR x l a b := by
  have e1 : comE (x.at_ A c) l' = comE x l := by
    unfold comE
    rw [show almB (x.at_ A c) = almB x from rfl, pl_len h, pl_chk h]
  have e2 : daysL (x.at_ A c) l' a b = daysL x l a b := by
    unfold daysL daysN
    congr 1
    funext d
    exact pl_all h
  unfold comR
  rw [e1, e2]
end Go.Proofs.Ytfbnllmmoaialaa

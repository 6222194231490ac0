/- almanac, plain: a plan is the smallest list of days that may follow one another; where there is none, there is none. -/
import Derived.Test.YtfbnllmmoaialaaB18Pc
import Derived.Test.YtfbnllmmoaialaaB15Av
import Derived.Test.YtfbnllmmoaialaaZ22He
import Derived.Test.YtfbnllmmoaialaaB20Fa
import Derived.Deep.RegionHeld3
import Derived.Deep.DeepCutAuto
import Derived.Test.YtfbnllmmoaialaaZ23RfB
namespace Go.Proofs.Ytfbnllmmoaialaa

/-- some days follow one another, out of a list, behind a last one -/
def PlanOf (g0 g1 : Int) : List Int → Option Int → List Int → Prop
  | _, _, [] => True
  | l, last, p :: ps => ∃ l1 l2, l = l1 ++ p :: l2 ∧ nearB g0 g1 last p = true ∧ PlanOf g0 g1 l2 (some p) ps
theorem PlanOf.cons {g0 g1 d : Int} {l : List Int} {last : Option Int} {p : List Int} (h : PlanOf g0 g1 l last p) : PlanOf g0 g1 (d :: l) last p := by
  cases p with
  | nil => trivial
  | cons p ps =>
    obtain ⟨l1, l2, e, h1, h2⟩ := h
    exact ⟨d :: l1, l2, by rw [e]; rfl, h1, h2⟩
/-- a plan of a list either begins with its first day, or lies behind it -/
theorem planOf_cons {g0 g1 d : Int} {l : List Int} {last : Option Int} {p : Int} {ps : List Int} : PlanOf g0 g1 (d :: l) last (p :: ps) ↔ (p = d ∧ nearB g0 g1 last d = true ∧ PlanOf g0 g1 l (some d) ps) ∨ PlanOf g0 g1 l last (p :: ps) := by
  constructor
  · rintro ⟨l1, l2, e, h1, h2⟩
    cases l1 with
    | nil =>
      simp only [List.nil_append, List.cons.injEq] at e
      obtain ⟨rfl, rfl⟩ := e
      exact .inl ⟨rfl, h1, h2⟩
    | cons x l1 =>
      simp only [List.cons_append, List.cons.injEq] at e
      obtain ⟨rfl, rfl⟩ := e
      exact .inr ⟨l1, l2, rfl, h1, h2⟩
  · rintro (⟨rfl, h1, h2⟩ | h)
    · exact ⟨[], l, rfl, h1, h2⟩
    · exact h.cons
theorem bestOf_ge {g0 g1 d : Int} {k : Int} : ∀ (l cs : List Int), 1 ≤ k → (k ≤ bestOf g0 g1 d l cs ↔ ∃ y c, (y, c) ∈ l.zip cs ∧ inB (y - d) g0 g1 = true ∧ k ≤ c)
  | [], cs, hk => by
    simp [bestOf]; omega
  | y :: l, [], hk => by
    simp [bestOf]; omega
  | y :: l, c :: cs, hk => by
    have ih := bestOf_ge (g0 := g0) (g1 := g1) (d := d) l cs hk
    simp only [bestOf, List.zip_cons_cons, List.mem_cons, Prod.mk.injEq]
    cases hin : inB (y - d) g0 g1 with
    | false =>
      simp only [Bool.false_eq_true, if_false]
      rw [show k ≤ max 0 (bestOf g0 g1 d l cs) ↔ k ≤ bestOf g0 g1 d l cs by omega, ih]
      constructor
      · rintro ⟨a, b, h1, h2, h3⟩; exact ⟨a, b, .inr h1, h2, h3⟩
      · rintro ⟨a, b, h1, h2, h3⟩
        rcases h1 with ⟨rfl, rfl⟩ | h1
        · rw [hin] at h2; cases h2
        · exact ⟨a, b, h1, h2, h3⟩
    | true =>
      simp only [if_true]
      constructor
      · intro h
        rcases Int.le_total k c with h1 | h1
        · exact ⟨y, c, .inl ⟨rfl, rfl⟩, hin, h1⟩
        · by_cases h2 : k ≤ bestOf g0 g1 d l cs
          · obtain ⟨a, b, h3, h4, h5⟩ := ih.1 h2; exact ⟨a, b, .inr h3, h4, h5⟩
          · exact ⟨y, c, .inl ⟨rfl, rfl⟩, hin, by omega⟩
      · rintro ⟨a, b, h1, h2, h3⟩
        rcases h1 with ⟨rfl, rfl⟩ | h1
        · omega
        · have := ih.2 ⟨a, b, h1, h2, h3⟩; omega
theorem zip_cnts {g0 g1 T : Int} : ∀ (l : List Int) (y c : Int), (y, c) ∈ l.zip (cnts g0 g1 T l) ↔ ∃ l1 l2, l = l1 ++ y :: l2 ∧ c = min (bestOf g0 g1 y l2 (cnts g0 g1 T l2) + 1) T
  | [], y, c => by
    constructor
    · intro h; simp at h
    · rintro ⟨l1, l2, h, _⟩; simp at h
  | d :: l, y, c => by
    simp only [cnts, List.zip_cons_cons, List.mem_cons, Prod.mk.injEq]
    rw [zip_cnts l y c]
    constructor
    · rintro (⟨rfl, rfl⟩ | ⟨l1, l2, rfl, rfl⟩)
      · exact ⟨[], l, rfl, rfl⟩
      · exact ⟨d :: l1, l2, rfl, rfl⟩
    · rintro ⟨l1, l2, h, rfl⟩
      cases l1 with
      | nil =>
        simp only [List.nil_append, List.cons.injEq] at h
        obtain ⟨rfl, rfl⟩ := h
        exact .inl ⟨rfl, rfl⟩
      | cons x l1 =>
        simp only [List.cons_append, List.cons.injEq] at h
        obtain ⟨rfl, rfl⟩ := h
        exact .inr ⟨l1, l2, rfl, rfl⟩
/-- the number of a day tells how many turns there can be from it on -/
theorem cnts_plan {g0 g1 T : Int} : ∀ (n : Nat) (l : List Int), l.length ≤ n → ∀ (d : Int) (k : Nat), (k : Int) + 1 ≤ T → ((k : Int) + 1 ≤ min (bestOf g0 g1 d l (cnts g0 g1 T l) + 1) T ↔ ∃ ps : List Int, ps.length = k ∧ PlanOf g0 g1 l (some d) ps)
  | n, l, hn, d, 0, hk => by
    have := bestOf_nn g0 g1 d l (cnts g0 g1 T l)
    exact ⟨fun _ => ⟨[], rfl, trivial⟩, fun _ => by omega⟩
  | 0, l, hn, d, k + 1, hk => by
    have hl : l = [] := List.eq_nil_of_length_eq_zero (by omega)
    subst hl
    constructor
    · intro h; simp [bestOf] at h; omega
    · rintro ⟨ps, h1, h2⟩
      cases ps with
      | nil => cases h1
      | cons p ps => obtain ⟨l1, l2, e, _⟩ := h2; simp at e
  | n + 1, l, hn, d, k + 1, hk => by
    have e1 : (((k + 1 : Nat) : Int) + 1 ≤ min (bestOf g0 g1 d l (cnts g0 g1 T l) + 1) T) ↔ ((k : Int) + 1 ≤ bestOf g0 g1 d l (cnts g0 g1 T l)) := by omega
    rw [e1, bestOf_ge l (cnts g0 g1 T l) (by omega)]
    constructor
    · rintro ⟨y, c, h1, h2, h3⟩
      obtain ⟨l1, l2, rfl, rfl⟩ := (zip_cnts l y c).1 h1
      obtain ⟨ps, h4, h5⟩ := (cnts_plan n l2 (by simp at hn; omega) y k (by omega)).1 h3
      exact ⟨y :: ps, by simp [h4], l1, l2, rfl, h2, h5⟩
    · rintro ⟨ps, h1, h2⟩
      cases ps with
      | nil => cases h1
      | cons y ps =>
        obtain ⟨l1, l2, rfl, h3, h4⟩ := h2
        exact ⟨y, _, (zip_cnts _ _ _).2 ⟨l1, l2, rfl, rfl⟩, h3, (cnts_plan n l2 (by simp at hn; omega) y k (by omega)).2 ⟨ps, by simpa using h1, h4⟩⟩
/-- a list is no greater than the beginning of another one -/
def LeL : List Int → List Int → Prop
  | [], _ => True
  | _ :: _, [] => False
  | a :: l, b :: m => a < b ∨ (a = b ∧ LeL l m)
theorem planOf_mem {g0 g1 : Int} : ∀ {l : List Int} {last : Option Int} {p : List Int}, PlanOf g0 g1 l last p → ∀ x ∈ p, x ∈ l
  | l, last, [], _, x, hx => by cases hx
  | l, last, p :: ps, h, x, hx => by
    obtain ⟨l1, l2, rfl, _, h2⟩ := h
    rcases List.mem_cons.1 hx with rfl | hx
    · simp
    · have := planOf_mem h2 x hx
      simp [this]
/-- the plan that is found is the smallest one; where none is found there is none -/
theorem greedy_spec {g0 g1 T : Int} : ∀ (l : List Int) (last : Option Int) (k : Nat), (k : Int) ≤ T → l.Pairwise (· < ·) →
    (∀ p, greedy g0 g1 (l.zip (cnts g0 g1 T l)) last k = some p → PlanOf g0 g1 l last p ∧ p.length = k ∧ ∀ p', PlanOf g0 g1 l last p' → p'.length = k → LeL p p') ∧
    (greedy g0 g1 (l.zip (cnts g0 g1 T l)) last k = none → ∀ p', PlanOf g0 g1 l last p' → p'.length ≠ k)
  | l, last, 0, _, _ => by
    have e : greedy g0 g1 (l.zip (cnts g0 g1 T l)) last 0 = some [] := by cases l.zip (cnts g0 g1 T l) <;> rfl
    rw [e]
    exact ⟨fun p h => by cases h; exact ⟨trivial, rfl, fun _ _ _ => trivial⟩, fun h => by cases h⟩
  | [], last, k + 1, _, _ => by
    refine ⟨fun p h => by simp [greedy] at h, fun _ p' h1 h2 => ?_⟩
    cases p' with
    | nil => cases h2
    | cons p ps => obtain ⟨l1, l2, e, _⟩ := h1; simp at e
  | d :: l, last, k + 1, hk, hs => by
    obtain ⟨hs1, hs2⟩ := List.pairwise_cons.1 hs
    have hA := cnts_plan (g0 := g0) (g1 := g1) (T := T) l.length l (Nat.le_refl _) d k (by omega)
    obtain ⟨ih1, ih2⟩ := greedy_spec (g0 := g0) (g1 := g1) (T := T) l (some d) k (by omega) hs2
    obtain ⟨jh1, jh2⟩ := greedy_spec (g0 := g0) (g1 := g1) (T := T) l last (k + 1) hk hs2
    simp only [cnts, List.zip_cons_cons, greedy]
    cases hc : (decide ((k : Int) + 1 ≤ min (bestOf g0 g1 d l (cnts g0 g1 T l) + 1) T) && nearB g0 g1 last d) with
    | true =>
      simp only [Bool.and_eq_true, decide_eq_true_eq] at hc
      obtain ⟨hc1, hc2⟩ := hc
      obtain ⟨ps, hp1, hp2⟩ := hA.1 hc1
      simp only [if_true]
      cases hg : greedy g0 g1 (l.zip (cnts g0 g1 T l)) (some d) k with
      | none => exact absurd hp1 (ih2 hg ps hp2)
      | some q =>
        obtain ⟨a1, a2, a3⟩ := ih1 q hg
        refine ⟨fun p h => ?_, fun h => by simp at h⟩
        simp only [Option.map_some, Option.some.injEq] at h
        subst h
        refine ⟨⟨[], l, rfl, hc2, a1⟩, by simp [a2], fun p' h1 h2 => ?_⟩
        cases p' with
        | nil => cases h2
        | cons x ps' =>
          rcases planOf_cons.1 h1 with ⟨rfl, _, h3⟩ | h3
          · exact Or.inr ⟨rfl, a3 ps' h3 (by simpa using h2)⟩
          · exact Or.inl (hs1 x (planOf_mem h3 x (by simp)))
    | false =>
      simp only [Bool.false_eq_true, if_false]
      have hno : ∀ ps', ¬ (nearB g0 g1 last d = true ∧ PlanOf g0 g1 l (some d) ps' ∧ ps'.length = k) := fun ps' ⟨h1, h2, h3⟩ => by
        have h4 := hA.2 ⟨ps', h3, h2⟩
        rw [h1] at hc
        simp only [Bool.and_true, decide_eq_false_iff_not] at hc
        exact hc h4
      refine ⟨fun p h => ?_, fun h p' h1 h2 => ?_⟩
      · obtain ⟨a1, a2, a3⟩ := jh1 p h
        refine ⟨a1.cons, a2, fun p' h1 h2 => ?_⟩
        cases p' with
        | nil => cases h2
        | cons x ps' =>
          rcases planOf_cons.1 h1 with ⟨rfl, h3, h4⟩ | h3
          · exact absurd ⟨h3, h4, by simpa using h2⟩ (hno ps')
          · exact a3 _ h3 h2
      · cases p' with
        | nil => cases h2
        | cons x ps' =>
          rcases planOf_cons.1 h1 with ⟨rfl, h3, h4⟩ | h3
          · exact absurd ⟨h3, h4, by simpa using h2⟩ (hno ps')
          · exact jh2 h _ h3 h2
/-- what stands at the beginning of a plan is a plan -/
theorem planOf_take {g0 g1 : Int} : ∀ {l : List Int} {last : Option Int} {p : List Int} (n : Nat), PlanOf g0 g1 l last p → PlanOf g0 g1 l last (p.take n)
  | l, last, p, 0, _ => by rw [List.take_zero]; trivial
  | l, last, [], n + 1, h => h
  | l, last, p :: ps, n + 1, h => by
    obtain ⟨l1, l2, e, h1, h2⟩ := h
    exact ⟨l1, l2, e, h1, planOf_take n h2⟩
/-- the days of a plan are apart as they may be -/
theorem planOf_gap {g0 g1 : Int} : ∀ {l : List Int} {last : Option Int} {p : List Int}, PlanOf g0 g1 l last p → ∀ i (hi : i + 1 < p.length), inB (p[i + 1] - p[i]) g0 g1 = true
  | l, last, [], _, i, hi => by simp at hi
  | l, last, [p], _, i, hi => by simp at hi
  | l, last, p :: q :: ps, h, 0, hi => by
    obtain ⟨l1, l2, e, h1, l3, l4, e2, h3, h4⟩ := h
    exact h3
  | l, last, p :: q :: ps, h, i + 1, hi => by
    obtain ⟨l1, l2, e, h1, h2⟩ := h
    exact planOf_gap h2 i (by simpa using hi)
theorem leL_at {a b : List Int} (h : LeL a b) : ∀ i (hi : i < a.length), (∀ j (hj : j < i), a[j]? = b[j]?) → ∃ hb : i < b.length, a[i] ≤ b[i] := by
  induction a generalizing b with
  | nil => intro i hi; simp at hi
  | cons x a ih =>
    intro i hi heq
    cases b with
    | nil => cases h
    | cons y b =>
      cases i with
      | zero =>
        refine ⟨by simp, ?_⟩
        rcases h with h | ⟨h, _⟩
        · exact Int.le_of_lt h
        · exact Int.le_of_eq h
      | succ i =>
        have h0 := heq 0 (by omega)
        simp at h0
        rcases h with h | ⟨_, h⟩
        · omega
        · obtain ⟨h1, h2⟩ := ih h i (by simpa using hi) (fun j hj => by have := heq (j + 1) (by omega); simpa using this)
          exact ⟨by simpa using h1, h2⟩
end Go.Proofs.Ytfbnllmmoaialaa
namespace Go.Proofs.Ytfbnllmmoaialaa

theorem bothE_7 (x : Alm) (rs : List DRl) : bothE x rs ≠ 7 := by
  unfold bothE chkE
  split
  · split
    · decide
    · split <;> decide
  · decide
theorem planR_0 {x : Alm} {rs : List DRl} {s0 s1 g0 g1 T : Int} {P : List Int} (h : planR x rs s0 s1 g0 g1 T = (P, 0)) : bothE x rs = 0 ∧ okP s0 s1 g0 g1 T = true ∧ greedy g0 g1 ((spanL x rs s0 s1).zip (cnts g0 g1 T (spanL x rs s0 s1))) none T.toNat = some P := by
  unfold planR at h
  by_cases hb : bothE x rs = 0
  · rw [if_pos hb] at h
    cases ho : okP s0 s1 g0 g1 T with
    | false => rw [ho] at h; simp at h
    | true =>
      rw [ho] at h
      simp only [if_true] at h
      cases hg : greedy g0 g1 ((spanL x rs s0 s1).zip (cnts g0 g1 T (spanL x rs s0 s1))) none T.toNat with
      | none => rw [hg] at h; simp [planS] at h
      | some l => rw [hg] at h; simp [planS] at h; rw [h]; exact ⟨hb, rfl, rfl⟩
  · rw [if_neg hb] at h
    simp only [Prod.mk.injEq] at h
    exact absurd h.2 hb
theorem planR_n0 {x : Alm} {rs : List DRl} {s0 s1 g0 g1 T E : Int} {P : List Int} (h : planR x rs s0 s1 g0 g1 T = (P, E)) (hE : E ≠ 0) : P = [] := by
  unfold planR at h
  split at h
  · split at h
    · cases hg : greedy g0 g1 ((spanL x rs s0 s1).zip (cnts g0 g1 T (spanL x rs s0 s1))) none T.toNat with
      | none => rw [hg] at h; simp [planS] at h; exact h.1
      | some l => rw [hg] at h; simp [planS] at h; exact absurd h.2.symm hE
    · simp at h; exact h.1
  · simp at h; exact h.1
theorem planR_7 {x : Alm} {rs : List DRl} {s0 s1 g0 g1 T : Int} {P : List Int} (h : planR x rs s0 s1 g0 g1 T = (P, 7)) : bothE x rs = 0 ∧ okP s0 s1 g0 g1 T = true ∧ greedy g0 g1 ((spanL x rs s0 s1).zip (cnts g0 g1 T (spanL x rs s0 s1))) none T.toNat = none := by
  unfold planR at h
  by_cases hb : bothE x rs = 0
  · rw [if_pos hb] at h
    cases ho : okP s0 s1 g0 g1 T with
    | false => rw [ho] at h; simp at h
    | true =>
      rw [ho] at h
      simp only [if_true] at h
      cases hg : greedy g0 g1 ((spanL x rs s0 s1).zip (cnts g0 g1 T (spanL x rs s0 s1))) none T.toNat with
      | none => exact ⟨hb, rfl, rfl⟩
      | some l => rw [hg] at h; simp [planS] at h
  · rw [if_neg hb] at h
    simp only [Prod.mk.injEq] at h
    exact absurd h.2 (bothE_7 x rs)
theorem okP_iff {s0 s1 g0 g1 T : Int} : okP s0 s1 g0 g1 T = true ↔ spanB s0 s1 = true ∧ 1 ≤ g0 ∧ g0 ≤ g1 ∧ g1 ≤ 4000 ∧ 1 ≤ T ∧ T ≤ 60 := by
  simp [okP, inB]
theorem spanL_sorted (x : Alm) (rs : List DRl) (a b : Int) : (spanL x rs a b).Pairwise (· < ·) := daysL_sorted x _ a b
theorem spanL_mem {x : Alm} {rs : List DRl} {a b d : Int} (h : d ∈ spanL x rs a b) : a ≤ d ∧ d ≤ b ∧ allowB x rs d = true := by
  obtain ⟨h1, h2⟩ := daysL_bd x _ a b d h
  refine ⟨h1, h2, ?_⟩
  unfold spanL daysL daysN at h
  have := (List.mem_filter.1 h).2
  simpa [allB] using this
/-- with one turn more there is no plan either -/
theorem plan_more {x : Alm} {rs : List DRl} {s0 s1 g0 g1 T : Int} {P : List Int} (h : planR x rs s0 s1 g0 g1 T = (P, 7)) (hT : T < 60) : planR x rs s0 s1 g0 g1 (T + 1) = ([], 7) := by
  obtain ⟨hb, ho, hg⟩ := planR_7 h
  obtain ⟨o1, o2, o3, o4, o5, o6⟩ := okP_iff.1 ho
  have ho2 : okP s0 s1 g0 g1 (T + 1) = true := okP_iff.2 ⟨o1, o2, o3, o4, by omega, by omega⟩
  obtain ⟨-, q2⟩ := greedy_spec (g0 := g0) (g1 := g1) (T := T) (spanL x rs s0 s1) none T.toNat (by omega) (spanL_sorted x rs s0 s1)
  obtain ⟨r1, -⟩ := greedy_spec (g0 := g0) (g1 := g1) (T := T + 1) (spanL x rs s0 s1) none (T + 1).toNat (by omega) (spanL_sorted x rs s0 s1)
  unfold planR
  rw [if_pos hb, ho2]
  simp only [if_true]
  cases hg2 : greedy g0 g1 ((spanL x rs s0 s1).zip (cnts g0 g1 (T + 1) (spanL x rs s0 s1))) none (T + 1).toNat with
  | none => rfl
  | some p =>
    obtain ⟨h1, h2, -⟩ := r1 p hg2
    exact absurd (by rw [List.length_take, h2]; omega) (q2 hg _ (planOf_take T.toNat h1))
/-- what a plan says -/
structure PlanOk (x : Alm) (rs : List DRl) (s0 s1 g0 g1 T : Int) (P : List Int) : Prop where
  both : bothE x rs = 0
  span : spanB s0 s1 = true
  gaps : 1 ≤ g0 ∧ g0 ≤ g1 ∧ g1 ≤ 4000
  turns : 1 ≤ T ∧ T ≤ 60
  len : (P.length : Int) = T
  day : ∀ d ∈ P, s0 ≤ d ∧ d ≤ s1 ∧ allowB x rs d = true
  gap : ∀ i (hi : i + 1 < P.length), inB (P[i + 1] - P[i]) g0 g1 = true
theorem plan_okP {x : Alm} {rs : List DRl} {s0 s1 g0 g1 T : Int} {P : List Int} (h : planR x rs s0 s1 g0 g1 T = (P, 0)) : PlanOk x rs s0 s1 g0 g1 T P := by
  obtain ⟨hb, ho, hg⟩ := planR_0 h
  obtain ⟨o1, o2, o3, o4, o5, o6⟩ := okP_iff.1 ho
  obtain ⟨q1, -⟩ := greedy_spec (g0 := g0) (g1 := g1) (T := T) (spanL x rs s0 s1) none T.toNat (by omega) (spanL_sorted x rs s0 s1)
  obtain ⟨h1, h2, -⟩ := q1 P hg
  exact ⟨hb, o1, ⟨o2, o3, o4⟩, ⟨o5, o6⟩, by omega, fun d hd => spanL_mem (planOf_mem h1 d hd), planOf_gap h1⟩
/-- one turn: the next allowed day -/
theorem plan_one {x : Alm} {rs : List DRl} {s0 s1 g0 g1 : Int} {P : List Int} (h : planR x rs s0 s1 g0 g1 1 = (P, 0)) : ∃ d, P = [d] ∧ nextR x rs s0 s1 = (d, 0) := by
  obtain ⟨hb, ho, hg⟩ := planR_0 h
  obtain ⟨o1, -⟩ := okP_iff.1 ho
  obtain ⟨q1, -⟩ := greedy_spec (g0 := g0) (g1 := g1) (T := 1) (spanL x rs s0 s1) none 1 (by omega) (spanL_sorted x rs s0 s1)
  obtain ⟨h1, h2, h3⟩ := q1 P hg
  have hn : nextR x rs s0 s1 = firstR (spanL x rs s0 s1) := by unfold nextR; rw [if_pos hb, o1]; rfl
  match P, h2 with
  | [d], _ =>
    refine ⟨d, rfl, ?_⟩
    have hm := planOf_mem h1 d (by simp)
    have hs := spanL_sorted x rs s0 s1
    rw [hn]
    cases hl : spanL x rs s0 s1 with
    | nil => rw [hl] at hm; cases hm
    | cons a l =>
      rw [hl] at hm h3 hs
      have h4 := h3 [a] ⟨[], l, rfl, rfl, trivial⟩ rfl
      obtain ⟨hs1, -⟩ := List.pairwise_cons.1 hs
      have h5 : d ≤ a := by
        rcases h4 with h4 | ⟨h4, _⟩
        · exact Int.le_of_lt h4
        · exact Int.le_of_eq h4
      have h6 : d = a := by
        rcases List.mem_cons.1 hm with h | h
        · exact h
        · have := hs1 d h; omega
      rw [h6]; rfl
/-- with one turn less there is a plan no greater than the beginning -/
theorem plan_less {x : Alm} {rs : List DRl} {s0 s1 g0 g1 T : Int} {P : List Int} (h : planR x rs s0 s1 g0 g1 T = (P, 0)) (hT : T ≠ 1) : ∃ P2, planR x rs s0 s1 g0 g1 (T - 1) = (P2, 0) ∧ (P2.length : Int) = T - 1 ∧ LeL P2 (P.take (T - 1).toNat) := by
  obtain ⟨hb, ho, hg⟩ := planR_0 h
  obtain ⟨o1, o2, o3, o4, o5, o6⟩ := okP_iff.1 ho
  have ho2 : okP s0 s1 g0 g1 (T - 1) = true := okP_iff.2 ⟨o1, o2, o3, o4, by omega, by omega⟩
  obtain ⟨q1, -⟩ := greedy_spec (g0 := g0) (g1 := g1) (T := T) (spanL x rs s0 s1) none T.toNat (by omega) (spanL_sorted x rs s0 s1)
  obtain ⟨h1, h2, -⟩ := q1 P hg
  obtain ⟨r1, r2⟩ := greedy_spec (g0 := g0) (g1 := g1) (T := T - 1) (spanL x rs s0 s1) none (T - 1).toNat (by omega) (spanL_sorted x rs s0 s1)
  have hp := planOf_take (T - 1).toNat h1
  have hpl : (P.take (T - 1).toNat).length = (T - 1).toNat := by rw [List.length_take, h2]; omega
  cases hg2 : greedy g0 g1 ((spanL x rs s0 s1).zip (cnts g0 g1 (T - 1) (spanL x rs s0 s1))) none (T - 1).toNat with
  | none => exact absurd hpl (r2 hg2 _ hp)
  | some p =>
    obtain ⟨a1, a2, a3⟩ := r1 p hg2
    refine ⟨p, ?_, by omega, a3 _ hp hpl⟩
    unfold planR
    rw [if_pos hb, ho2]
    simp only [if_true, hg2]
    rfl
end Go.Proofs.Ytfbnllmmoaialaa
namespace Go.Proofs.Ytfbnllmmoaialaa
open Go.RowKit

theorem planX_any (x : Alm) (A2 : Option Addr) (c2 : Nat) (rs : List DRl) (s0 s1 g0 g1 T : Int) (w : World) (hl : x.cycles.length ≤ 1000000) (hc : Sl Cyc.cells 2 w w.heap.size x.a x.cycles) (hr : RlsAt w w.heap.size A2 rs) :
    Calls Try.prog 18 #[.agg x.cells.toArray, .slice A2 rs.length c2, .agg #[.int .i64 s0, .int .i64 s1], .agg #[.int .i64 g0, .int .i64 g1], .int .i64 T] w (RetSlE (planR x rs s0 s1 g0 g1 T).1 (planR x rs s0 s1 g0 g1 T).2 w) := by
  by_cases h : bothE x rs = 0 ∧ okP s0 s1 g0 g1 T = true
  · exact plan_ok x A2 c2 rs s0 s1 g0 g1 T w hl hc hr h.1 h.2
  · exact plan_err x A2 c2 rs s0 s1 g0 g1 T w hl hc hr h
theorem planV {x : Alm} {rs : List DRl} {s0 s1 g0 g1 T E : Int} {P : List Int} (h : planR x rs s0 s1 g0 g1 T = (P, E)) (hl : x.cycles.length ≤ 1000000) (A : Option Addr) (c : Nat) (A3 : Option Addr) (k3 : Nat) (l' : List DRl) (W : World) (hs : Sl Cyc.cells 2 W W.heap.size A x.cycles) (hr : RlsAt W W.heap.size A3 l') (hpl : l'.map DRl.pl = rs.map DRl.pl) :
    Calls Try.prog 18 #[.agg (Alm.cells ⟨A, c, x.cycles, x.sol, x.lun⟩).toArray, .slice A3 l'.length k3, .agg #[.int .i64 s0, .int .i64 s1], .agg #[.int .i64 g0, .int .i64 g1], .int .i64 T] W fun e w' => ∃ A4 q4, e = .returned (.tuple #[.slice A4 P.length q4, .int .i64 E]) ∧ Sl intCell 1 w' w'.heap.size A4 P ∧ (A4 = none → q4 = 0) ∧ Below W.heap.size W w' := by
  have h1 := planX_any (x.at_ A c) A3 k3 l' s0 s1 g0 g1 T W hl hs hr
  rw [planR_cong hpl, h] at h1
  exact h1
theorem nextV {x : Alm} {rs : List DRl} {fr to_ n E : Int} (h : nextR x rs fr to_ = (n, E)) (hl : x.cycles.length ≤ 1000000) (A : Option Addr) (c : Nat) (A3 : Option Addr) (k3 : Nat) (l' : List DRl) (W : World) (hs : Sl Cyc.cells 2 W W.heap.size A x.cycles) (hr : RlsAt W W.heap.size A3 l') (hpl : l'.map DRl.pl = rs.map DRl.pl) :
    Calls Try.prog 53 #[.agg (Alm.cells ⟨A, c, x.cycles, x.sol, x.lun⟩).toArray, .slice A3 l'.length k3, .int .i64 fr, .int .i64 to_] W fun e w' => e = .returned (.tuple #[.int .i64 n, .int .i64 E]) ∧ Below W.heap.size W w' := by
  have h1 := nextF_any (x.at_ A c) A3 k3 l' fr to_ W hl hs hr
  rw [nextR_cong hpl, h] at h1
  exact h1
theorem allowedV {x : Alm} {rs : List DRl} {day i E : Int} {ok : Bool} (h : allowedR x rs day = (ok, i, E)) (hl : x.cycles.length ≤ 1000000) (A : Option Addr) (c : Nat) (A3 : Option Addr) (k3 : Nat) (l' : List DRl) (W : World) (hs : Sl Cyc.cells 2 W W.heap.size A x.cycles) (hr : RlsAt W W.heap.size A3 l') (hpl : l'.map DRl.pl = rs.map DRl.pl) :
    Calls Try.prog 37 #[.agg (Alm.cells ⟨A, c, x.cycles, x.sol, x.lun⟩).toArray, .slice A3 l'.length k3, .int .i64 day] W fun e w' => e = .returned (.tuple #[.bool ok, .int .i64 i, .int .i64 E]) ∧ Below W.heap.size W w' := by
  have h1 := allowedF_any (x.at_ A c) A3 k3 l' day W hl hs hr
  rw [allowedR_cong hpl, h] at h1
  exact h1
end Go.Proofs.Ytfbnllmmoaialaa
namespace Go.Proofs.Ytfbnllmmoaialaa
open Go.RowKit

set_option maxRecDepth 100000 in
set_option maxHeartbeats 4000000 in
theorem rtest_any (A : Option Addr) (c : Nat) (l : List Cyc) (e b u d p f m y s k : Int) (kd wh st fr to_ : Int) (w : World) (hl : l.length ≤ 8) (hc : ∀ x ∈ l, cycB x = true) (hs : 0 ≤ st ∧ st < 18446744073709551616) (hr : Sl Cyc.cells 2 w w.heap.size A l) :
    Calls Try.prog 89 #[.agg #[.slice A l.length c, .int .i64 e, .int .i64 b, .int .i64 u, .int .i64 d, .int .i64 p, .int .i64 f, .int .i64 m, .int .i64 y, .int .i64 s, .int .i64 k], .agg #[.int .i64 kd, .int .i64 wh, .int .u64 st, .int .i64 fr, .int .i64 to_]] w fun en w' => en = .returned (.bool (tstB l ⟨kd, wh, st, fr, to_⟩)) ∧ Below w.heap.size w w' := by
  have HR := Lib.hid hr; have HC := Lib.hid hc
  have HSB := Lib.hid hs
  clear hr hc hs
  obtain ⟨pl, hpl⟩ : ∃ v, v = ((wh == 0) && ((fr == 0) && (to_ == 0))) := ⟨_, rfl⟩
  have HPL := Lib.hid hpl
  clear hpl
  go_enter Try.func89, Try.ntmps89
  go_upto_region 1 with fail
  refine gen_w (fun W => Blk W w.heap.size #[.slice A l.length c, .int .i64 e, .int .i64 b, .int .i64 u, .int .i64 d, .int .i64 p, .int .i64 f, .int .i64 m, .int .i64 y, .int .i64 s, .int .i64 k] 28 ∧ Blk W (w.heap.size + 1) #[.int .i64 kd, .int .i64 wh, .int .u64 st, .int .i64 fr, .int .i64 to_] 126 ∧ Below w.heap.size w W) ⟨(Blk.at_ rfl).alloc _, Blk.at_ (by simp), by (repeat (first | exact Below.refl _ _ | assumption | (refine Below.alloc ?_ (by first | omega | (simp; omega) | (simp; done)) _) | (refine Below.setCell ?_ (by first | omega | (simp; omega) | (simp; done)) _) | (refine Below.drew ?_) | (refine belowN ?_ _) | (refine Below.trans ?_ (Below.mono ‹Below _ _ _› (by first | omega | (simp; omega) | (simp; done))))))⟩ ?_
  rintro V0 ⟨ga, gt, hw⟩
  (have t0 := gt.cell 0; have t1 := gt.cell 1; have t2 := gt.cell 2; have t3 := gt.cell 3; have t4 := gt.cell 4; simp at t0 t1 t2 t3 t4)
  (have z0 := ga.cell 0; simp at z0)
  go_cut [5] (fun s5 wx => s5 = .bool pl ∧ V0 = wx)
  case first =>
    have hpl := HPL.out
    clear HPL
    cases z1 : (wh == 0) with
    | false =>
      rw [z1] at hpl; simp at hpl; subst hpl
      go_wp2_with fail
      go_meet
      exact ⟨rfl, rfl⟩
    | true =>
      cases z2 : (fr == 0) with
      | false =>
        rw [z1, z2] at hpl; simp at hpl; subst hpl
        go_wp2_with fail
        go_meet
        exact ⟨rfl, rfl⟩
      | true =>
        cases z3 : (to_ == 0) with
        | false =>
          rw [z1, z2, z3] at hpl; simp at hpl; subst hpl
          go_wp2_with fail
          go_meet
          exact ⟨rfl, rfl⟩
        | true =>
          rw [z1, z2, z3] at hpl; simp at hpl; subst hpl
          go_wp2_with fail
          go_meet
          exact ⟨rfl, rfl⟩
  case rest =>
    obtain ⟨rfl, rfl⟩ := hcut
    by_cases k1 : kd = 1
    · subst k1
      go_upto_region 4 with fail
      cases hin : inB wh 0 ((l.length : Int) - 1) with
      | false =>
        have HIN := Lib.hid (fun W => rin_val hin W)
        have HT : Hid (tstB l ⟨1, wh, st, fr, to_⟩ = false) := (by simp [tstB, hin] : tstB l _ = false)
        clear hin
        have v0 : IntKind.i64.wrap ((l.length : Int) - 1) = (l.length : Int) - 1 := IntWalk.i64_in _ ⟨by omega, by omega⟩
        (refine wp_region_ext (by kernel_rfl) (by kernel_rfl) ?_; (repeat (go_big_quiet_step((go_at_call 65; with_reducible exact Calls.ext_same (HIN.out _))))); with_reducible refine wpQuiet_nil ?_; intro w1 hw1; have hb1 := ext_below hw1; clear hw1)
        have hw := bl2 hw hb1
        go_wp2_with fail
        go_ret
        exact ⟨ret_bool HT.out.symm, hw⟩
      | true =>
        obtain ⟨i0, i1⟩ := inB_iff.1 hin
        have HIN := Lib.hid (fun W => rin_val hin W)
        have v0 : IntKind.i64.wrap ((l.length : Int) - 1) = (l.length : Int) - 1 := IntWalk.i64_in _ ⟨by omega, by omega⟩
        obtain ⟨j, rfl⟩ := Int.eq_ofNat_of_zero_le i0
        have hj : j < l.length := by omega
        cases z2 : (fr == 0) with
        | false =>
          have HT : Hid (tstB l ⟨1, (j : Int), st, fr, to_⟩ = false) := (by simp [tstB, z2] : tstB l _ = false)
          clear hin
          (refine wp_region_ext (by kernel_rfl) (by kernel_rfl) ?_; (repeat (go_big_quiet_step((go_at_call 65; with_reducible exact Calls.ext_same (HIN.out _))))); with_reducible refine wpQuiet_nil ?_; intro w1 hw1; have hb1 := ext_below hw1; clear hw1)
          have hw := bl2 hw hb1
          go_wp2_with fail
          go_ret
          exact ⟨ret_bool HT.out.symm, hw⟩
        | true =>
          cases z3 : (to_ == 0) with
          | false =>
            have HT : Hid (tstB l ⟨1, (j : Int), st, fr, to_⟩ = false) := (by simp [tstB, z3] : tstB l _ = false)
            clear hin
            (refine wp_region_ext (by kernel_rfl) (by kernel_rfl) ?_; (repeat (go_big_quiet_step((go_at_call 65; with_reducible exact Calls.ext_same (HIN.out _))))); with_reducible refine wpQuiet_nil ?_; intro w1 hw1; have hb1 := ext_below hw1; clear hw1)
            have hw := bl2 hw hb1
            go_wp2_with fail
            go_ret
            exact ⟨ret_bool HT.out.symm, hw⟩
          | true =>
            obtain ⟨ab, ao, rfl, hblk, hcell⟩ := (HR.out.below hw).at_ (k := j) (fun _ => rfl) hj
            have hcy := HC.out _ (List.getElem_mem hj)
            have HT0 : Hid (tstB l ⟨1, (j : Int), st, fr, to_⟩ = subB st (18446744073709551615 / 2 ^ (64 - l[j].l).toNat)) := (by
              simp only [tstB, hin, z2, z3, Int.toNat_natCast, List.getElem?_eq_getElem hj, if_true, Bool.true_and, Bool.and_true] : tstB l _ = _)
            obtain ⟨q, hq⟩ : ∃ q, q = l[j] := ⟨_, rfl⟩
            rw [← hq] at hcell hcy HT0
            obtain ⟨ql, qs⟩ := q
            obtain ⟨⟨l1, l2⟩, -⟩ := cycB_iff.1 hcy
            simp only at l1 l2 HT0
            have e0 : V0.cell? ⟨ab, ao + j * 2, none⟩ = some (.int .i64 ql) := hcell 0 _ rfl
            have HSET := Lib.hid (fun W => rset_any st 0 (ql - 1) W HSB.out)
            have HT : Hid (tstB l ⟨1, (j : Int), st, fr, to_⟩ = setB st 0 (ql - 1)) := (by rw [HT0.out, subL HSB.out l1 l2] : tstB l _ = _)
            obtain ⟨v, hv⟩ : ∃ v, v = setB st 0 (ql - 1) := ⟨_, rfl⟩
            rw [← hv] at HSET HT
            have v1 : IntKind.i64.wrap (ql - 1) = ql - 1 := IntWalk.i64_in _ ⟨by omega, by omega⟩
            have j0 : (0 : Int) ≤ (j : Int) := by omega
            have j1 : (j : Int) < (l.length : Int) := by omega
            clear hcell hcy hq hv hin HT0
            (refine wp_region_ext (by kernel_rfl) (by kernel_rfl) ?_; (repeat (go_big_quiet_step((first | (go_at_call 65; with_reducible exact Calls.ext_same (HIN.out _)) | (go_at_call 117; with_reducible exact Calls.ext_of (HSET.out _)))))); with_reducible refine wpQuiet_nil ?_; intro w1 hw1; have hb1 := ext_below hw1; clear hw1)
            have hw := bl2 hw hb1
            go_wp2_with fail
            go_ret
            exact ⟨ret_bool HT.out.symm, hw⟩
    · have n1 : (kd == 1) = false := by simpa using k1
      by_cases k2 : kd = 2 ∨ kd = 4
      · have HSET := Lib.hid (fun W => rset_any st 1 12 W HSB.out)
        obtain ⟨v, hv⟩ : ∃ v, v = setB st 1 12 := ⟨_, rfl⟩
        rw [← hv] at HSET
        have HT0 : Hid (tstB l ⟨kd, wh, st, fr, to_⟩ = (pl && v)) := (by
          rw [HPL.out, hv, ← sub12 HSB.out]; simp only [tstB, if_neg k1, if_pos k2, Bool.and_assoc] : tstB l _ = _)
        clear hv
        cases pl with
        | false =>
          have HT : Hid (tstB l ⟨kd, wh, st, fr, to_⟩ = false) := HT0
          rcases k2 with rfl | rfl <;> (go_wp2_with (go_at_call 117; (with_reducible refine (HSET.out _).mono ?_); rintro _ W3 ⟨rfl, hb3⟩; have hw := bl2 hw hb3); go_ret; exact ⟨ret_bool HT.out.symm, hw⟩)
        | true =>
          have HT : Hid (tstB l ⟨kd, wh, st, fr, to_⟩ = v) := HT0
          rcases k2 with rfl | rfl <;> (go_wp2_with (go_at_call 117; (with_reducible refine (HSET.out _).mono ?_); rintro _ W3 ⟨rfl, hb3⟩; have hw := bl2 hw hb3); go_ret; exact ⟨ret_bool HT.out.symm, hw⟩)
      · have n2 : (kd == 2) = false := by simp; omega
        have n4 : (kd == 4) = false := by simp; omega
        by_cases k3 : kd = 3 ∨ kd = 5
        · have HSET := Lib.hid (fun W => rset_any st 1 31 W HSB.out)
          obtain ⟨v, hv⟩ : ∃ v, v = setB st 1 31 := ⟨_, rfl⟩
          rw [← hv] at HSET
          have HT0 : Hid (tstB l ⟨kd, wh, st, fr, to_⟩ = (pl && v)) := (by
            rw [HPL.out, hv, ← sub31 HSB.out]; simp only [tstB, if_neg k1, if_neg k2, if_pos k3, Bool.and_assoc] : tstB l _ = _)
          clear hv
          cases pl with
          | false =>
            have HT : Hid (tstB l ⟨kd, wh, st, fr, to_⟩ = false) := HT0
            rcases k3 with rfl | rfl <;> (go_wp2_with (go_at_call 117; (with_reducible refine (HSET.out _).mono ?_); rintro _ W3 ⟨rfl, hb3⟩; have hw := bl2 hw hb3); go_ret; exact ⟨ret_bool HT.out.symm, hw⟩)
          | true =>
            have HT : Hid (tstB l ⟨kd, wh, st, fr, to_⟩ = v) := HT0
            rcases k3 with rfl | rfl <;> (go_wp2_with (go_at_call 117; (with_reducible refine (HSET.out _).mono ?_); rintro _ W3 ⟨rfl, hb3⟩; have hw := bl2 hw hb3); go_ret; exact ⟨ret_bool HT.out.symm, hw⟩)
        · have n3 : (kd == 3) = false := by simp; omega
          have n5 : (kd == 5) = false := by simp; omega
          by_cases k6 : kd = 6
          · subst k6
            cases hv : (st == 0) with
            | false =>
              have HT : Hid (tstB l ⟨6, wh, st, fr, to_⟩ = false) := (by simp [tstB, sub0 HSB.out, hv] : tstB l _ = _)
              cases pl <;> (go_wp2_with (go_at_call 117; (with_reducible refine (HSET.out _).mono ?_); rintro _ W3 ⟨rfl, hb3⟩; have hw := bl2 hw hb3); go_ret; exact ⟨ret_bool HT.out.symm, hw⟩)
            | true =>
              have HT : Hid (tstB l ⟨6, wh, st, fr, to_⟩ = pl) := (by rw [HPL.out]; simp [tstB, sub0 HSB.out, hv, Bool.and_assoc] : tstB l _ = _)
              cases pl <;> (go_wp2_with (go_at_call 117; (with_reducible refine (HSET.out _).mono ?_); rintro _ W3 ⟨rfl, hb3⟩; have hw := bl2 hw hb3); go_ret; exact ⟨ret_bool HT.out.symm, hw⟩)
          · have n6 : (kd == 6) = false := by simpa using k6
            by_cases k7 : kd = 7
            · subst k7
              cases z1 : (wh == 0) with
              | false =>
                have HT : Hid (tstB l ⟨7, wh, st, fr, to_⟩ = false) := (by simp [tstB, z1] : tstB l _ = _)
                (go_wp2_with (go_at_call 117; (with_reducible refine (HSET.out _).mono ?_); rintro _ W3 ⟨rfl, hb3⟩; have hw := bl2 hw hb3); go_ret; exact ⟨ret_bool HT.out.symm, hw⟩)
              | true =>
                cases z2 : (st == 0) with
                | false =>
                  have HT : Hid (tstB l ⟨7, wh, st, fr, to_⟩ = false) := (by simp [tstB, sub0 HSB.out, z2] : tstB l _ = _)
                  (go_wp2_with (go_at_call 117; (with_reducible refine (HSET.out _).mono ?_); rintro _ W3 ⟨rfl, hb3⟩; have hw := bl2 hw hb3); go_ret; exact ⟨ret_bool HT.out.symm, hw⟩)
                | true =>
                  cases h1 : inB fr 0 1000000 with
                  | false =>
                    have HDA := Lib.hid (fun W => rday_val h1 W)
                    have HT : Hid (tstB l ⟨7, wh, st, fr, to_⟩ = false) := (by simp [tstB, h1] : tstB l _ = _)
                    clear h1
                    go_wp2_with (first | (go_at_call 28; (with_reducible refine (HDA.out _).mono ?_); rintro _ _ ⟨rfl, rfl⟩) | (go_at_call 28; (with_reducible refine (HDB.out _).mono ?_); rintro _ _ ⟨rfl, rfl⟩))
                    go_ret
                    exact ⟨ret_bool HT.out.symm, hw⟩
                  | true =>
                    have HDA := Lib.hid (fun W => rday_val h1 W)
                    have HDB := Lib.hid (fun W => rday_any to_ W)
                    obtain ⟨v, hv⟩ : ∃ v, v = inB to_ 0 1000000 := ⟨_, rfl⟩
                    rw [← hv] at HDB
                    have HT : Hid (tstB l ⟨7, wh, st, fr, to_⟩ = v) := (by simp [tstB, h1, z1, sub0 HSB.out, z2, hv] : tstB l _ = _)
                    clear h1 hv
                    go_wp2_with (first | (go_at_call 28; (with_reducible refine (HDA.out _).mono ?_); rintro _ _ ⟨rfl, rfl⟩) | (go_at_call 28; (with_reducible refine (HDB.out _).mono ?_); rintro _ _ ⟨rfl, rfl⟩))
                    go_ret
                    exact ⟨ret_bool HT.out.symm, hw⟩
            · have n7 : (kd == 7) = false := by simpa using k7
              have HT : Hid (tstB l ⟨kd, wh, st, fr, to_⟩ = false) := (by simp only [tstB, if_neg k1, if_neg k2, if_neg k3, if_neg k6, if_neg k7] : tstB l _ = _)
              clear k1 k2 k3 k6 k7
              go_wp2_with fail
              go_ret
              exact ⟨ret_bool HT.out.symm, hw⟩
end Go.Proofs.Ytfbnllmmoaialaa

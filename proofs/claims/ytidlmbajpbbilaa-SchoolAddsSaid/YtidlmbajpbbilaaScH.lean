/- School: what valid schools have; which rules speak (plain part). -/
import Derived.Test.YtidlmbajpbbilaaScG
namespace Go.Proofs.Ytidlmbajpbbilaa
open Go.RowKit

theorem ascB_mem {num : Int} : ∀ {l : List Int} {b : Int}, ascB num b l = true → ∀ u ∈ l, b < u ∧ u < num := by
  intro l
  induction l with
  | nil => intro b _ u hu; cases hu
  | cons x l ih =>
    intro b h u hu
    simp only [ascB, Bool.and_eq_true, decide_eq_true_eq] at h
    rcases List.mem_cons.1 hu with rfl | hu
    · exact h.1
    · have := ih h.2 u hu; omega
structure RuleOk (s : Sch) (k : Nat) (r : Rul) : Prop where
  tests : ∀ t ∈ r.when_, TestFit s.places.toNat t
  len : r.when_.length ≤ 6
  kinds : 0 ≤ r.kinds ∧ r.kinds < 2 ^ s.kinds.toNat
  rank : -100 ≤ r.rank ∧ r.rank ≤ 100
  unl : ∀ u ∈ r.unless_, 0 ≤ u ∧ u < k
  ulen : r.unless_.length ≤ 5
  says : 0 ≤ r.says ∧ r.says < s.answers
structure Valid (s : Sch) : Prop where
  places : 1 ≤ s.places ∧ s.places ≤ 6
  signs : 1 ≤ s.signs ∧ s.signs ≤ 64
  charts : chartsN s.signs s.places.toNat ≤ 4096
  kinds : 1 ≤ s.kinds ∧ s.kinds ≤ 4
  answers : 1 ≤ s.answers ∧ s.answers ≤ 20
  len : s.rules.length ≤ 30
  rule : ∀ k, (h : k < s.rules.length) → RuleOk s k s.rules[k]
theorem Valid.small {s : Sch} (h : Valid s) : Small s := ⟨h.places.1, h.places.2, h.signs.1, h.signs.2⟩
theorem tstB_fit {s : Sch} {t : Tst} (ht : t.ok) (hp : 1 ≤ s.places) (h : tstB s t = true) : TestFit s.places.toNat t := by
  simp only [tstB, Bool.and_eq_true, Bool.or_eq_true, beq_iff_eq, bne_iff_ne, inB_iff] at h
  obtain ⟨h1, h2⟩ := h
  refine ⟨ht, h1.1, by omega, ?_, ?_⟩ <;> (rcases h2 with h2 | h2 <;> omega)
theorem ruleOk_of {s : Sch} {k : Nat} {r : Rul} (hp : 1 ≤ s.places) (ho : ∀ t ∈ r.when_, t.ok) (h : ruleB s k r = true) : RuleOk s k r := by
  simp only [ruleB, testsB, Bool.and_eq_true, decide_eq_true_eq, inB_iff, List.all_eq_true] at h
  obtain ⟨⟨⟨⟨⟨h1, h2, h2'⟩, h3⟩, h4⟩, h5⟩, h6⟩ := h
  exact ⟨fun t ht => tstB_fit (ho t ht) hp (h2' t ht), h2, by omega, h4, fun u hu => by have := ascB_mem h1 u hu; omega, h5, by omega⟩
theorem rulesB_get {s : Sch} : ∀ {l : List Rul} {i : Nat}, rulesB s i l = true → ∀ k, (h : k < l.length) → ruleB s ((i + k : Nat) : Int) l[k] = true := by
  intro l
  induction l with
  | nil => intro i _ k h; simp at h
  | cons x l ih =>
    intro i h k hk
    simp only [rulesB, Bool.and_eq_true] at h
    cases k with
    | zero => simpa using h.1
    | succ k =>
      have := ih h.2 k (by simpa using hk)
      rw [show i + 1 + k = i + (k + 1) by omega] at this
      simpa using this
theorem valid_of {s : Sch} (ho : ∀ r ∈ s.rules, ∀ t ∈ r.when_, t.ok) (h : schB s = true) : Valid s := by
  simp only [schB, baseB, Bool.and_eq_true, decide_eq_true_eq, inB_iff] at h
  obtain ⟨⟨⟨⟨⟨⟨h1, h2⟩, h3⟩, h4⟩, h5⟩, h6⟩, h7⟩ := h
  refine ⟨h1, h2, h3, h4, h5, h6, fun k hk => ?_⟩
  have := rulesB_get h7 k hk
  rw [Nat.zero_add] at this
  exact ruleOk_of h1.1 (ho _ (List.getElem_mem hk)) this
theorem Sch.reads.oks {s : Sch} {w : World} {B : Nat} (h : s.reads w B) : ∀ r ∈ s.rules, ∀ t ∈ r.when_, t.ok := fun r hr => (h.2.2 r hr).2.2.2.2

def kbit (r : Rul) (kind : Int) : Bool := r.kinds / 2 ^ kind.toNat % 2 == 1
/-- rule i speaks, of the first n rules -/
def spks (s : Sch) (hold : Nat → Bool) (kind : Int) : Nat → Nat → Bool
  | 0, _ => false
  | n + 1, i => if i = n then hold n && (match s.rules[n]? with | some r => kbit r kind && !(r.unless_.any fun u => spks s hold kind n u.toNat) | none => false) else spks s hold kind n i
def sp (s : Sch) (hold : Nat → Bool) (kind : Int) (i : Nat) : Bool := spks s hold kind (i + 1) i
theorem spks_eq (s : Sch) (hold : Nat → Bool) (kind : Int) (n i : Nat) : spks s hold kind n i = (decide (i < n) && sp s hold kind i) := by
  induction n with
  | zero => simp [spks]
  | succ n ih =>
    by_cases h : i = n
    · subst h; simp [sp]
    · have hd : decide (i < n) = decide (i < n + 1) := by simp; omega
      simp only [spks, if_neg h, ih, hd]
theorem sp_eq (s : Sch) (hold : Nat → Bool) (kind : Int) (k : Nat) (hk : k < s.rules.length) (hu : ∀ u ∈ s.rules[k].unless_, 0 ≤ u ∧ u < k) :
    sp s hold kind k = (hold k && (kbit s.rules[k] kind && !(s.rules[k].unless_.any fun u => sp s hold kind u.toNat))) := by
  have h : (s.rules[k].unless_.any fun u => spks s hold kind k u.toNat) = (s.rules[k].unless_.any fun u => sp s hold kind u.toNat) := by
    rw [Bool.eq_iff_iff, List.any_eq_true, List.any_eq_true]
    constructor
    · rintro ⟨u, hu1, hu2⟩; rw [spks_eq] at hu2; simp at hu2; exact ⟨u, hu1, hu2.2⟩
    · rintro ⟨u, hu1, hu2⟩; refine ⟨u, hu1, ?_⟩; rw [spks_eq, hu2]; have := hu u hu1; simp; omega
  rw [← h]
  simp [sp, spks, List.getElem?_eq_getElem hk]
def rnk (s : Sch) (i : Nat) : Int := match s.rules[i]? with | some r => r.rank | none => 0
def topR (s : Sch) (f : Nat → Bool) : Nat → Int
  | 0 => -101
  | n + 1 => if f n && decide (topR s f n < rnk s n) then rnk s n else topR s f n
/-- the rules below n that speak and are not outranked -/
def mainS (s : Sch) (f : Nat → Bool) (n : Nat) (i : Nat) : Bool := f i && rnk s i == topR s f n
theorem topR_le (s : Sch) (f : Nat → Bool) (n i : Nat) (h : i < n) (hf : f i = true) : rnk s i ≤ topR s f n := by
  induction n with
  | zero => omega
  | succ n ih =>
    simp only [topR]
    by_cases hi : i = n
    · subst hi; rw [hf]; simp only [Bool.true_and, decide_eq_true_eq]; split <;> omega
    · have := ih (by omega)
      split
      · rename_i h2; simp at h2; omega
      · exact this
/-- one rule more: outranks all, or is one of them, or changes nothing -/
theorem main_new {s : Sch} {f : Nat → Bool} {n : Nat} (h : f n = true) (hr : topR s f n < rnk s n) : topR s f (n + 1) = rnk s n ∧ bset (mainS s f (n + 1)) (n + 1) = 2 ^ n := by
  have ht : topR s f (n + 1) = rnk s n := by simp [topR, h, hr]
  refine ⟨ht, ?_⟩
  rw [← bset_one (Nat.lt_succ_self n)]
  refine bset_congr fun i hi => ?_
  simp only [mainS, ht]
  by_cases hin : i = n
  · subst hin; simp [h]
  · cases hfi : f i with
    | false => simp [hin]
    | true =>
      have := topR_le s f n i (by omega) hfi
      have h2 : (rnk s i == rnk s n) = false := by simp only [beq_eq_false_iff_ne]; omega
      have h3 : (i == n) = false := by simp [hin]
      rw [h2, h3]; rfl
theorem main_add {s : Sch} {f : Nat → Bool} {n : Nat} (h : f n = true) (hr : topR s f n = rnk s n) : topR s f (n + 1) = topR s f n ∧ bset (mainS s f (n + 1)) (n + 1) = bset (mainS s f n) n ||| 2 ^ n := by
  have ht : topR s f (n + 1) = topR s f n := by simp [topR, h, hr]
  refine ⟨ht, ?_⟩
  have hm : mainS s f (n + 1) = mainS s f n := by funext i; simp [mainS, ht]
  rw [hm, bset_next (by simp [mainS, h, hr])]
theorem main_old {s : Sch} {f : Nat → Bool} {n : Nat} (h : f n = false ∨ rnk s n < topR s f n) : topR s f (n + 1) = topR s f n ∧ bset (mainS s f (n + 1)) (n + 1) = bset (mainS s f n) n := by
  have ht : topR s f (n + 1) = topR s f n := by
    simp only [topR]
    rcases h with h | h
    · simp [h]
    · rw [if_neg]; simp; omega
  refine ⟨ht, ?_⟩
  have hm : mainS s f (n + 1) = mainS s f n := by funext i; simp [mainS, ht]
  rw [hm, bset_same]
  rcases h with h | h
  · simp [mainS, h]
  · simp only [mainS, Bool.and_eq_false_iff]; right; simp; omega
end Go.Proofs.Ytidlmbajpbbilaa

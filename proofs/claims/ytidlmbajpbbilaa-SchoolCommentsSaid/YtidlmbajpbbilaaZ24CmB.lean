/- The law SchoolComments: the plain law: the school of the cases. -/
import Derived.Test.YtidlmbajpbbilaaZ22CmA
import Derived.Test.YtidlmbajpbbilaaRgG
import Derived.Test.YtidlmbajpbbilaaZ21ChA
namespace Go.Proofs.Ytidlmbajpbbilaa
open Go.RowKit

/-- the rules of cases: each of its own rank -/
def casRul (i : Nat) (c : Cas) : Rul := ⟨none, 0, c.when_, 1, (i : Int), none, 0, [], c.says⟩
def casS (s : Sch) (cs : List Cas) : Sch := ⟨s.places, s.signs, 1, s.answers, none, 0, cs.mapIdx casRul⟩
theorem cas_get (s : Sch) (cs : List Cas) (i : Nat) : (casS s cs).rules[i]? = (cs[i]?).map (casRul i) := by simp [casS]
theorem cas_len (s : Sch) (cs : List Cas) : (casS s cs).rules.length = cs.length := by simp [casS]
theorem cas_appl (s : Sch) (cs : List Cas) (ch : List Int) (i : Nat) : appl (casS s cs) ch i = abP ch cs i := by
  simp only [appl, cas_get, abP]
  cases cs[i]? <;> rfl
theorem cas_spks (s : Sch) (cs : List Cas) (hold : Nat → Bool) : ∀ n, n ≤ cs.length → ∀ i, spks (casS s cs) hold 0 n i = (decide (i < n) && hold i)
  | 0, _, i => by simp [spks]
  | n + 1, h, i => by
    have ih := cas_spks s cs hold n (by omega) i
    simp only [spks, cas_get, List.getElem?_eq_getElem (show n < cs.length by omega), Option.map_some]
    by_cases hi : i = n
    · subst hi
      have : kbit (casRul i cs[i]) 0 = true := by simp [kbit, casRul]
      have h2 : (casRul i cs[i]).unless_ = [] := rfl
      simp [this, h2]
    · rw [if_neg hi, ih]
      have : decide (i < n + 1) = decide (i < n) := by rw [Bool.eq_iff_iff]; simp; omega
      rw [this]
theorem cas_sp (s : Sch) (cs : List Cas) (hold : Nat → Bool) {i : Nat} (h : i < cs.length) : sp (casS s cs) hold 0 i = hold i := by
  unfold sp; rw [cas_spks s cs hold (i + 1) (by omega) i]; simp
theorem cas_rnk (s : Sch) (cs : List Cas) {i : Nat} (h : i < cs.length) : rnk (casS s cs) i = (i : Int) := by
  simp only [rnk, cas_get, List.getElem?_eq_getElem h]; rfl
theorem cas_sys (s : Sch) (cs : List Cas) {i : Nat} (h : i < cs.length) : sys (casS s cs) i = cs[i].says.toNat := by
  simp only [sys, cas_get, List.getElem?_eq_getElem h]; rfl
/-- the ranks grow: the last rule that speaks is the top one -/
theorem cas_top (s : Sch) (cs : List Cas) (f : Nat → Bool) : ∀ n, n ≤ cs.length → ((∀ i, i < n → f i = false) ∧ topR (casS s cs) f n = -101) ∨ ∃ a, a < n ∧ f a = true ∧ topR (casS s cs) f n = (a : Int) ∧ ∀ i, a < i → i < n → f i = false
  | 0, _ => .inl ⟨fun i hi => by omega, rfl⟩
  | n + 1, h => by
    have hr := cas_rnk s cs (show n < cs.length by omega)
    cases hf : f n with
    | true =>
      refine .inr ⟨n, by omega, hf, ?_, fun i h1 h2 => by omega⟩
      have hlt : topR (casS s cs) f n < (n : Int) := by
        rcases cas_top s cs f n (by omega) with ⟨_, h2⟩ | ⟨a, h1, _, h3, _⟩ <;> omega
      simp only [topR, hf, hr, Bool.true_and]; rw [if_pos (by simpa using hlt)]
    | false =>
      have e : topR (casS s cs) f (n + 1) = topR (casS s cs) f n := by simp [topR, hf]
      rcases cas_top s cs f n (by omega) with ⟨h1, h2⟩ | ⟨a, h1, h2, h3, h4⟩
      · refine .inl ⟨fun i hi => ?_, by rw [e, h2]⟩
        rcases Nat.lt_succ_iff_lt_or_eq.1 hi with h5 | h5
        · exact h1 i h5
        · rw [h5]; exact hf
      · refine .inr ⟨a, by omega, h2, by rw [e, h3], fun i h5 h6 => ?_⟩
        rcases Nat.lt_succ_iff_lt_or_eq.1 h6 with h7 | h7
        · exact h4 i h5 h7
        · rw [h7]; exact hf
/-- with one case about a chart its answer is read -/
theorem cas_one {s : Sch} {cs : List Cas} {ch : List Int} {a : Nat} (h : abL ch cs cs.length = [a]) (ha : a < cs.length) : ∀ x, ansOf (casS s cs) 0 0 ch x = decide (x = cs[a].says.toNat) := by
  have hin : ∀ i, i < cs.length → (abP ch cs i = true ↔ i = a) := fun i hi => by
    have h1 : i ∈ abL ch cs cs.length ↔ i < cs.length ∧ abP ch cs i = true := abL_mem
    rw [h] at h1
    simp only [List.mem_singleton] at h1
    constructor
    · intro h2; exact h1.2 ⟨hi, h2⟩
    · intro h2; exact (h1.1 h2).2
  obtain ⟨f, hf⟩ : ∃ f, f = sp (casS s cs) (fun i => (bset (appl (casS s cs) ch) (casS s cs).rules.length).testBit i && !Nat.testBit 0 i) 0 := ⟨_, rfl⟩
  have hfi : ∀ i, i < cs.length → (f i = true ↔ i = a) := fun i hi => by
    rw [hf, cas_sp s cs _ hi, bset_testBit, cas_len, cas_appl]
    simp only [hi, decide_true, Bool.true_and, Nat.zero_testBit, Bool.not_false, Bool.and_true]
    exact hin i hi
  have hm : ∀ i, i < cs.length → mainOf (casS s cs) 0 0 ch i = decide (i = a) := fun i hi => by
    have e : mainOf (casS s cs) 0 0 ch i = mainS (casS s cs) f (casS s cs).rules.length i := by rw [hf]; rfl
    rw [e, cas_len]
    simp only [mainS, cas_rnk s cs hi]
    rcases cas_top s cs f cs.length (Nat.le_refl _) with ⟨h1, _⟩ | ⟨b, h1, h2, h3, h4⟩
    · have := h1 a ha; rw [(hfi a ha).2 rfl] at this; cases this
    · have hb := (hfi b h1).1 h2
      subst hb
      rw [h3, Bool.eq_iff_iff]
      simp only [Bool.and_eq_true, beq_iff_eq, decide_eq_true_eq]
      constructor
      · intro h5; exact (hfi i hi).1 h5.1
      · intro h5; subst h5; exact ⟨h2, rfl⟩
  intro x
  unfold ansOf
  rw [cas_len]
  have hN : ∀ i, i < cs.length → (mainN (casS s cs) 0 0 ch).testBit i = decide (i = a) := fun i hi => by
    unfold mainN; rw [bset_testBit, cas_len, hm i hi]; simp [hi]
  have key : ∀ n, n ≤ cs.length → saidTo (casS s cs) (mainN (casS s cs) 0 0 ch) n x = (decide (a < n) && decide (x = cs[a].says.toNat)) := by
    intro n
    induction n with
    | zero => intro _; simp [saidTo]
    | succ n ih =>
      intro hn
      simp only [saidTo, ih (by omega), hN n (by omega), cas_sys s cs (show n < cs.length by omega)]
      by_cases hna : n = a
      · subst hna; simp; rw [Bool.eq_iff_iff]; simp
      · have : decide (a < n + 1) = decide (a < n) := by rw [Bool.eq_iff_iff]; simp; omega
        rw [this]; simp [hna]
  rw [key cs.length (Nat.le_refl _)]
  simp [ha]
end Go.Proofs.Ytidlmbajpbbilaa
namespace Go.Proofs.Ytidlmbajpbbilaa
open Go.RowKit

/-- nothing is wrong at a chart: one case is about it, and its answer is read -/
theorem gl_zero {s : Sch} {kind : Int} {cs : List Cas} {k : Nat} (hc : ∀ c ∈ cs, 0 ≤ c.says ∧ c.says < 20) (h : (glAt s kind cs k).2 = 0) : ∃ (a : Nat) (ha : a < cs.length), abL (chartL s k) cs cs.length = [a] ∧ ansL s kind k = [cs[a].says.toNat] := by
  match hm : abL (chartL s k) cs cs.length with
  | [] => rw [glAt_ab0 hm] at h; cases h
  | a :: b :: r => rw [glAt_ab2 hm] at h; cases h
  | [a] =>
    have ha := (abL_head hm).1
    obtain ⟨h1, h2⟩ := hc _ (List.getElem_mem ha)
    rw [glAt_ab1 hm ha h1 h2] at h
    by_cases hs : ansL s kind k = [cs[a].says.toNat]
    · exact ⟨a, ha, rfl, hs⟩
    · rw [if_neg hs] at h; cases h
theorem cas_ansN {s : Sch} {cs : List Cas} {k a : Nat} (h : abL (chartL s k) cs cs.length = [a]) (ha : a < cs.length) (h1 : 0 ≤ cs[a].says) (h2 : cs[a].says < 20) : ansN (casS s cs) 0 0 (chartL s k) = 2 ^ cs[a].says.toNat := by
  unfold ansN
  rw [← bset_one (show cs[a].says.toNat < 20 by omega)]
  exact bset_congr fun x _ => by rw [cas_one h ha x]; rw [Bool.eq_iff_iff]; simp
/-- a commentary with which nothing is wrong reads as the school -/
theorem comments_same {s : Sch} {kind : Int} {cs : List Cas} (hc : ∀ c ∈ cs, 0 ≤ c.says ∧ c.says < 20) (h : glossN s kind cs < 0) {k : Nat} (hk : k < chartsC s) : ansN (s.only kind) 0 0 (chartL s k) = ansN (casS s cs) 0 0 (chartL s k) := by
  have hd : ∀ j, j < chartsC s → ((glAt s kind cs j).2 != 0) = false := fun j hj => by
    cases hp : ((glAt s kind cs j).2 != 0) with
    | false => rfl
    | true =>
      have hd : decide (0 ≤ firstN (fun k => (glAt s kind cs k).2 != 0) (chartsC s)) = (List.range (chartsC s)).any _ := firstIdx_any _ _
      have ha : (List.range (chartsC s)).any (fun k => (glAt s kind cs k).2 != 0) = true := List.any_eq_true.2 ⟨j, by simpa using hj, hp⟩
      rw [ha] at hd
      have h0 := of_decide_eq_true hd
      have : glossN s kind cs = firstN (fun k => (glAt s kind cs k).2 != 0) (chartsC s) := rfl
      omega
  have h0 := hd k hk
  obtain ⟨a, ha, h1, h2⟩ := gl_zero hc (by simpa using h0)
  obtain ⟨h3, h4⟩ := hc _ (List.getElem_mem ha)
  rw [ansN_only, cas_ansN h1 ha h3 h4]
  exact (bset_pow (by omega)).2 h2
theorem cas_rulesB {s : Sch} {cs0 : List Cas} : ∀ (l : List Cas) (m i : Nat) (N : Nat), l.all (casB s) = true → m + l.length ≤ 30 → rulesB (casS s cs0) i (l.mapIdx fun j c => casRul (m + j) c) = true
  | [], _, _, _, _, _ => rfl
  | c :: l, m, i, N, h, hl => by
    simp only [List.all_cons, Bool.and_eq_true] at h
    simp only [List.length_cons] at hl
    rw [List.mapIdx_cons]
    simp only [rulesB, Bool.and_eq_true]
    refine ⟨?_, ?_⟩
    · have h1 := h.1
      simp only [casB, Bool.and_eq_true] at h1
      simp only [ruleB, casRul, Bool.and_eq_true]
      refine ⟨⟨⟨⟨⟨rfl, ?_⟩, rfl⟩, ?_⟩, rfl⟩, h1.2⟩
      · exact h1.1
      · exact inB_iff.2 ⟨by omega, by omega⟩
    · have := cas_rulesB (s := s) (cs0 := cs0) l (m + 1) (i + 1) N h.2 (by omega)
      have e : (fun j c => casRul (m + (j + 1)) c) = fun j c => casRul (m + 1 + j) c := by funext j c; rw [show m + (j + 1) = m + 1 + j by omega]
      rw [e]; exact this
theorem cas_schB {s : Sch} {cs : List Cas} (hv : schB s = true) (hc : cs.all (casB s) = true) (hl : cs.length ≤ 30) : schB (casS s cs) = true := by
  simp only [schB, Bool.and_eq_true] at hv ⊢
  refine ⟨?_, ?_⟩
  · have h1 := hv.1
    simp only [baseB, Bool.and_eq_true, decide_eq_true_eq] at h1 ⊢
    refine ⟨⟨⟨⟨⟨h1.1.1.1.1.1, h1.1.1.1.1.2⟩, h1.1.1.1.2⟩, rfl⟩, h1.1.2⟩, by rw [cas_len]; exact hl⟩
  · have := cas_rulesB (s := s) (cs0 := cs) cs 0 0 0 hc (by omega)
    have e : (fun j c => casRul (0 + j) c) = casRul := by funext j c; rw [Nat.zero_add]
    rw [e] at this; exact this
theorem only_rulesB {s : Sch} {kind : Int} : ∀ (l : List Rul) (i : Nat), rulesB s i l = true → rulesB (s.only kind) i (l.map (Rul.only kind)) = true
  | [], _, _ => rfl
  | r :: l, i, h => by
    simp only [rulesB, List.map_cons, Bool.and_eq_true] at *
    refine ⟨?_, only_rulesB l (i + 1) h.2⟩
    have h1 := h.1
    simp only [ruleB, Bool.and_eq_true] at h1 ⊢
    refine ⟨⟨⟨⟨⟨h1.1.1.1.1.1, h1.1.1.1.1.2⟩, ?_⟩, h1.1.1.2⟩, h1.1.2⟩, h1.2⟩
    have h2 : 0 ≤ r.kinds / 2 ^ kind.toNat % 2 := Int.emod_nonneg _ (by omega)
    have h3 : r.kinds / 2 ^ kind.toNat % 2 < 2 := Int.emod_lt_of_pos _ (by omega)
    show inB (r.kinds / 2 ^ kind.toNat % 2) 0 (2 ^ (1 : Int).toNat - 1) = true
    exact inB_iff.2 ⟨h2, by show _ ≤ (2 : Int) ^ 1 - 1; omega⟩
theorem only_schB {s : Sch} {kind : Int} (hv : schB s = true) : schB (s.only kind) = true := by
  simp only [schB, Bool.and_eq_true] at hv ⊢
  refine ⟨?_, only_rulesB _ _ hv.2⟩
  have h1 := hv.1
  simp only [baseB, only_len, Bool.and_eq_true, decide_eq_true_eq] at h1 ⊢
  exact ⟨⟨⟨⟨⟨h1.1.1.1.1.1, h1.1.1.1.1.2⟩, h1.1.1.1.2⟩, rfl⟩, h1.1.2⟩, h1.2⟩
/-- a school of one case speaks just where the case is about the chart -/
theorem one_kind {s : Sch} {c : Cas} {ch : List Int} (h0 : 0 ≤ c.says) (h1 : c.says < 20) : kindOf ((List.range 20).filter (ansOf (casS s [c]) 0 0 ch)) = if holdsB ch c.when_ then 1 else 2 := by
  have hp : abP ch [c] 0 = holdsB ch c.when_ := by simp [abP]
  cases hh : holdsB ch c.when_ with
  | true =>
    have hab : abL ch [c] [c].length = [0] := by
      show (List.range 1).filter (abP ch [c]) = [0]
      simp [List.range_succ, hp, hh]
    have h2 := cas_one (s := s) hab (show 0 < [c].length by simp)
    have e : (List.range 20).filter (ansOf (casS s [c]) 0 0 ch) = [c.says.toNat] := by
      have key : ∀ n < 20, (List.range 20).filter (fun i => decide (i = n)) = [n] := by decide
      rw [← key c.says.toNat (by omega)]
      exact List.filter_congr fun x _ => h2 x
    rw [e]; rfl
  | false =>
    have hno : ∀ x, ansOf (casS s [c]) 0 0 ch x = false := fun x => by
      cases hx : ansOf (casS s [c]) 0 0 ch x with
      | false => rfl
      | true =>
        exfalso
        unfold ansOf at hx
        rw [cas_len] at hx
        have hx' : (saidTo (casS s [c]) (mainN (casS s [c]) 0 0 ch) 0 x || (mainN (casS s [c]) 0 0 ch).testBit 0 && x == sys (casS s [c]) 0) = true := hx
        have hm : (mainN (casS s [c]) 0 0 ch).testBit 0 = false := by
          unfold mainN
          rw [bset_testBit, cas_len]
          have hs : sp (casS s [c]) (fun i => (bset (appl (casS s [c]) ch) (casS s [c]).rules.length).testBit i && !Nat.testBit 0 i) 0 0 = false := by
            rw [cas_sp s [c] _ (show 0 < [c].length by simp), bset_testBit, cas_appl, hp, hh]; simp
          have : mainOf (casS s [c]) 0 0 ch 0 = false := by
            show mainS (casS s [c]) _ _ 0 = false
            simp only [mainS, hs, Bool.false_and]
          rw [this, Bool.and_false]
        rw [hm] at hx'
        simp [saidTo] at hx'
    have e : (List.range 20).filter (ansOf (casS s [c]) 0 0 ch) = [] := by
      rw [List.filter_eq_nil_iff]; intro x _; rw [hno x]; simp
    rw [e]; rfl
end Go.Proofs.Ytidlmbajpbbilaa
namespace Go.Proofs.Ytidlmbajpbbilaa
open Go.RowKit

def Rul.dbl (r : Rul) : Rul := { r with rank := 2 * r.rank }
/-- all ranks twice as great -/
def Sch.dbl (s : Sch) : Sch := { s with rules := s.rules.map Rul.dbl }
theorem dbl_get (s : Sch) (i : Nat) : s.dbl.rules[i]? = (s.rules[i]?).map Rul.dbl := by simp [Sch.dbl]
theorem dbl_len (s : Sch) : s.dbl.rules.length = s.rules.length := by simp [Sch.dbl]
theorem appl_dbl (s : Sch) (ch : List Int) : appl s.dbl ch = appl s ch := by
  funext i; simp only [appl, dbl_get]; cases s.rules[i]? <;> rfl
theorem spks_dbl (s : Sch) (hold : Nat → Bool) (kind : Int) : ∀ n, spks s.dbl hold kind n = spks s hold kind n
  | 0 => rfl
  | n + 1 => by
    have ih := spks_dbl s hold kind n
    funext i
    simp only [spks, dbl_get, ih]
    cases s.rules[n]? <;> rfl
theorem sp_dbl (s : Sch) (hold : Nat → Bool) (kind : Int) : sp s.dbl hold kind = sp s hold kind := by funext i; simp only [sp, spks_dbl]
theorem rnk_dbl (s : Sch) (i : Nat) : rnk s.dbl i = 2 * rnk s i := by
  simp only [rnk, dbl_get]; cases s.rules[i]? <;> simp [Rul.dbl]
theorem sys_dbl (s : Sch) : sys s.dbl = sys s := by
  funext i; simp only [sys, dbl_get]; cases s.rules[i]? <;> rfl
theorem saidTo_dbl (s : Sch) (L : Nat) : ∀ n, saidTo s.dbl L n = saidTo s L n
  | 0 => rfl
  | n + 1 => by funext a; simp only [saidTo, saidTo_dbl s L n, sys_dbl]
theorem topR_dbl (s : Sch) (f : Nat → Bool) (h : ∀ i, -50 ≤ rnk s i) : ∀ n, ((∀ i, i < n → f i = false) ∧ topR s f n = -101 ∧ topR s.dbl f n = -101) ∨ (topR s.dbl f n = 2 * topR s f n ∧ -50 ≤ topR s f n)
  | 0 => .inl ⟨fun i hi => by omega, rfl, rfl⟩
  | n + 1 => by
    have hn := h n
    have hr := rnk_dbl s n
    rcases topR_dbl s f h n with ⟨h1, h2, h3⟩ | ⟨h1, h2⟩
    · cases hf : f n with
      | false =>
        refine .inl ⟨fun i hi => ?_, by simp [topR, hf, h2], by simp [topR, hf, h3]⟩
        rcases Nat.lt_succ_iff_lt_or_eq.1 hi with e | e
        · exact h1 i e
        · rw [e]; exact hf
      | true =>
        have e1 : topR s f (n + 1) = rnk s n := by simp only [topR, hf, h2, Bool.true_and]; rw [if_pos (by simp; omega)]
        have e2 : topR s.dbl f (n + 1) = rnk s.dbl n := by simp only [topR, hf, h3, Bool.true_and]; rw [if_pos (by simp; omega)]
        exact .inr ⟨by rw [e1, e2, hr], by rw [e1]; exact hn⟩
    · refine .inr ?_
      simp only [topR, h1, hr]
      cases hf : f n with
      | false => simp; exact h2
      | true =>
        simp only [Bool.true_and]
        by_cases hlt : topR s f n < rnk s n
        · rw [if_pos (by simp; omega), if_pos (by simpa using hlt)]; exact ⟨rfl, hn⟩
        · rw [if_neg (by simp; omega), if_neg (by simpa using hlt)]; exact ⟨rfl, h2⟩
theorem mainS_dbl (s : Sch) (f : Nat → Bool) (h : ∀ i, -50 ≤ rnk s i) (n i : Nat) (hi : i < n) : mainS s.dbl f n i = mainS s f n i := by
  simp only [mainS, rnk_dbl]
  rcases topR_dbl s f h n with ⟨h1, _, _⟩ | ⟨h1, _⟩
  · rw [h1 i hi]; rfl
  · rw [h1]; congr 1; rw [Bool.eq_iff_iff]; simp only [beq_iff_eq]; omega
/-- no chart is read differently -/
theorem ansN_dbl (s : Sch) (h : ∀ i, -50 ≤ rnk s i) (O : Nat) (kind : Int) (ch : List Int) : ansN s.dbl O kind ch = ansN s O kind ch := by
  have e : mainN s.dbl O kind ch = mainN s O kind ch := by
    simp only [mainN, dbl_len, mainOf, sp_dbl, appl_dbl]
    exact bset_congr fun i hi => mainS_dbl s _ h _ i hi
  simp only [ansN, ansOf, e, dbl_len, saidTo_dbl]
/-- a rule more at the end -/
def Sch.wide (s : Sch) (r : Rul) : Sch := { s with rules := s.rules ++ [r] }
theorem wide_get (s : Sch) (r : Rul) {i : Nat} (h : i < s.rules.length) : (s.wide r).rules[i]? = s.rules[i]? := by
  show (s.rules ++ [r])[i]? = _
  rw [List.getElem?_append_left h]
theorem wide_last (s : Sch) (r : Rul) : (s.wide r).rules[s.rules.length]? = some r := by
  show (s.rules ++ [r])[s.rules.length]? = _
  simp
theorem wide_len (s : Sch) (r : Rul) : (s.wide r).rules.length = s.rules.length + 1 := by simp [Sch.wide]
theorem spks_wide (s : Sch) (r : Rul) (hold : Nat → Bool) (kind : Int) : ∀ n, n ≤ s.rules.length → spks (s.wide r) hold kind n = spks s hold kind n
  | 0, _ => rfl
  | n + 1, h => by
    have ih := spks_wide s r hold kind n (by omega)
    funext i
    simp only [spks, wide_get s r (show n < s.rules.length by omega), ih]
theorem spks_hold (s : Sch) (h1 h2 : Nat → Bool) (kind : Int) : ∀ n, (∀ i, i < n → h1 i = h2 i) → spks s h1 kind n = spks s h2 kind n
  | 0, _ => rfl
  | n + 1, h => by
    have ih := spks_hold s h1 h2 kind n (fun i hi => h i (by omega))
    funext i
    simp only [spks, ih, h n (by omega)]
theorem rnk_wide (s : Sch) (r : Rul) {i : Nat} (h : i < s.rules.length) : rnk (s.wide r) i = rnk s i := by simp only [rnk, wide_get s r h]
theorem sys_wide (s : Sch) (r : Rul) {i : Nat} (h : i < s.rules.length) : sys (s.wide r) i = sys s i := by simp only [sys, wide_get s r h]
theorem topR_cong {s s' : Sch} {f f' : Nat → Bool} : ∀ n, (∀ i, i < n → f i = f' i ∧ rnk s i = rnk s' i) → topR s f n = topR s' f' n
  | 0, _ => rfl
  | n + 1, h => by
    obtain ⟨h1, h2⟩ := h n (by omega)
    simp only [topR, topR_cong n (fun i hi => h i (by omega)), h1, h2]
theorem saidTo_wide (s : Sch) (r : Rul) (L : Nat) : ∀ n, n ≤ s.rules.length → saidTo (s.wide r) L n = saidTo s L n
  | 0, _ => rfl
  | n + 1, h => by funext a; simp only [saidTo, saidTo_wide s r L n (by omega), sys_wide s r (show n < s.rules.length by omega)]
/-- who speaks, of s -/
def spk (s : Sch) (kind : Int) (ch : List Int) : Nat → Bool := sp s (fun i => (bset (appl s ch) s.rules.length).testBit i && !Nat.testBit 0 i) kind
theorem spk_wide (s : Sch) (r : Rul) (kind : Int) (ch : List Int) {i : Nat} (h : i < s.rules.length) : spk (s.wide r) kind ch i = spk s kind ch i := by
  unfold spk sp
  rw [spks_wide s r _ kind (i + 1) (by omega)]
  rw [spks_hold s _ _ kind (i + 1) (fun j hj => ?_)]
  rw [bset_testBit, bset_testBit, wide_len]
  have e : appl (s.wide r) ch j = appl s ch j := by simp only [appl, wide_get s r (show j < s.rules.length by omega)]
  rw [e]
  have h1 : j < s.rules.length := by omega
  have h2 : j < s.rules.length + 1 := by omega
  simp [h1, h2]
theorem mainN_wide (s : Sch) (r : Rul) (kind : Int) (ch : List Int) (h : ∃ i, i < s.rules.length ∧ spk s kind ch i = true) (hr : ∀ i, i < s.rules.length → r.rank < rnk s i) : mainN (s.wide r) 0 kind ch = mainN s 0 kind ch := by
  obtain ⟨i, hi, hs⟩ := h
  have ht : topR (s.wide r) (spk (s.wide r) kind ch) s.rules.length = topR s (spk s kind ch) s.rules.length := topR_cong _ fun j hj => ⟨spk_wide s r kind ch hj, rnk_wide s r hj⟩
  have hle := topR_le s (spk s kind ch) s.rules.length i hi hs
  have hlt := hr i hi
  have hl : rnk (s.wide r) s.rules.length = r.rank := by simp only [rnk, wide_last]
  obtain ⟨h1, h2⟩ := main_old (s := s.wide r) (f := spk (s.wide r) kind ch) (n := s.rules.length) (.inr (by rw [hl, ht]; omega))
  have e1 : mainN (s.wide r) 0 kind ch = bset (mainS (s.wide r) (spk (s.wide r) kind ch) (s.rules.length + 1)) (s.rules.length + 1) := by
    unfold mainN mainOf spk; rw [wide_len]
  have e2 : mainN s 0 kind ch = bset (mainS s (spk s kind ch) s.rules.length) s.rules.length := rfl
  rw [e1, h2, e2]
  refine bset_congr fun j hj => ?_
  simp only [mainS, spk_wide s r kind ch hj, rnk_wide s r hj, ht]
theorem mainN_lt (s : Sch) (O : Nat) (kind : Int) (ch : List Int) : mainN s O kind ch < 2 ^ s.rules.length := bset_lt _ _
/-- where some rule speaks, the rule at the end changes nothing -/
theorem wide_same (s : Sch) (r : Rul) (kind : Int) (ch : List Int) (h : ∃ i, i < s.rules.length ∧ spk s kind ch i = true) (hr : ∀ i, i < s.rules.length → r.rank < rnk s i) :
    mainN (s.wide r) 0 kind ch = mainN s 0 kind ch ∧ ansOf (s.wide r) 0 kind ch = ansOf s 0 kind ch := by
  have e := mainN_wide s r kind ch h hr
  refine ⟨e, ?_⟩
  unfold ansOf
  rw [e, wide_len]
  funext a
  have hb : (mainN s 0 kind ch).testBit s.rules.length = false := Nat.testBit_lt_two_pow (mainN_lt s 0 kind ch)
  simp only [saidTo, hb, Bool.false_and, Bool.or_false, saidTo_wide s r _ s.rules.length (Nat.le_refl _)]
/-- where none speaks, the rule at the end gives one answer at most -/
theorem wide_few (s : Sch) (r : Rul) (kind : Int) (ch : List Int) (h : ∀ i, i < s.rules.length → spk s kind ch i = false) : ∀ a, ansOf (s.wide r) 0 kind ch a = true → a = r.says.toNat := by
  intro a ha
  have hm : ∀ i, i < s.rules.length → (mainN (s.wide r) 0 kind ch).testBit i = false := fun i hi => by
    unfold mainN
    rw [bset_testBit]
    have : mainOf (s.wide r) 0 kind ch i = false := by
      have h1 : spk (s.wide r) kind ch i = false := by rw [spk_wide s r kind ch hi]; exact h i hi
      show mainS (s.wide r) (spk (s.wide r) kind ch) _ i = false
      simp only [mainS, h1, Bool.false_and]
    rw [this, Bool.and_false]
  unfold ansOf at ha
  rw [wide_len] at ha
  have hz : ∀ n, n ≤ s.rules.length → ∀ a, saidTo (s.wide r) (mainN (s.wide r) 0 kind ch) n a = false := by
    intro n
    induction n with
    | zero => intro _ a; rfl
    | succ n ih =>
      intro hn a
      simp only [saidTo, ih (by omega) a, hm n (by omega), Bool.false_and, Bool.or_false]
  simp only [saidTo, hz s.rules.length (Nat.le_refl _) a, Bool.false_or, Bool.and_eq_true, beq_iff_eq] at ha
  rw [ha.2]
  simp only [sys, wide_last]
theorem topR_hit (s : Sch) (f : Nat → Bool) (h : ∀ i, f i = true → -101 < rnk s i) : ∀ n, (∀ i, i < n → f i = false) ∧ topR s f n = -101 ∨ ∃ i, i < n ∧ f i = true ∧ rnk s i = topR s f n
  | 0 => .inl ⟨fun i hi => by omega, rfl⟩
  | n + 1 => by
    rcases topR_hit s f h n with ⟨h1, h2⟩ | ⟨i, h1, h2, h3⟩
    · cases hf : f n with
      | false =>
        refine .inl ⟨fun i hi => ?_, by simp [topR, hf, h2]⟩
        rcases Nat.lt_succ_iff_lt_or_eq.1 hi with e | e
        · exact h1 i e
        · rw [e]; exact hf
      | true =>
        have := h n hf
        exact .inr ⟨n, by omega, hf, by simp only [topR, hf, h2, Bool.true_and]; rw [if_pos (by simp; omega)]⟩
    · refine .inr ?_
      by_cases hc : (f n && decide (topR s f n < rnk s n)) = true
      · simp only [Bool.and_eq_true, decide_eq_true_eq] at hc
        exact ⟨n, by omega, hc.1, by simp only [topR, hc.1, Bool.true_and]; rw [if_pos (by simpa using hc.2)]⟩
      · exact ⟨i, by omega, h2, by simp only [topR]; rw [if_neg hc]; exact h3⟩
theorem saidTo_mem {s : Sch} {L i : Nat} (hL : L.testBit i = true) : ∀ n, i < n → saidTo s L n (sys s i) = true
  | 0, h => by omega
  | n + 1, h => by
    simp only [saidTo]
    rcases Nat.lt_succ_iff_lt_or_eq.1 h with h1 | h1
    · rw [saidTo_mem hL n h1]; rfl
    · subst h1; simp [hL]
/-- where some rule speaks there is an answer -/
theorem loud {s : Sch} {kind : Int} {ch : List Int} (hr : ∀ i, spk s kind ch i = true → -101 < rnk s i) (h : ∃ i, i < s.rules.length ∧ spk s kind ch i = true) : ∃ i, i < s.rules.length ∧ ansOf s 0 kind ch (sys s i) = true := by
  rcases topR_hit s (spk s kind ch) hr s.rules.length with ⟨h1, _⟩ | ⟨i, h1, h2, h3⟩
  · obtain ⟨j, hj, hj2⟩ := h; rw [h1 j hj] at hj2; cases hj2
  · refine ⟨i, h1, saidTo_mem ?_ _ h1⟩
    unfold mainN
    rw [bset_testBit]
    have : mainOf s 0 kind ch i = true := by
      show mainS s (spk s kind ch) s.rules.length i = true
      simp only [mainS, h2, h3, beq_self_eq_true, Bool.and_self]
    rw [this]; simp [h1]
end Go.Proofs.Ytidlmbajpbbilaa
namespace Go.Proofs.Ytidlmbajpbbilaa
open Go.RowKit

theorem flat_mod (f : Rul → Rul) (k : Nat) (v : Value) (hk : k < 5) : ∀ (l : List Rul) (i : Nat) (hi : i < l.length), (f l[i]).cells = l[i].cells.set k v → flat Rul.cells (l.modify i f) = (flat Rul.cells l).set (i * 5 + k) v
  | [], i, hi, _ => by cases hi
  | r :: l, 0, _, h => by
    have h' : (f r).cells = r.cells.set k v := h
    have e : flat Rul.cells ((r :: l).modify 0 f) = (f r).cells ++ flat Rul.cells l := by simp [flat]
    have e2 : flat Rul.cells (r :: l) = r.cells ++ flat Rul.cells l := rfl
    rw [e, e2, h', Nat.zero_mul, Nat.zero_add]
    match k, hk with
    | 0, _ => rfl
    | 1, _ => rfl
    | 2, _ => rfl
    | 3, _ => rfl
    | 4, _ => rfl
  | r :: l, i + 1, hi, h => by
    have ih := flat_mod f k v hk l i (by simpa using hi) (by simpa using h)
    have e : flat Rul.cells ((r :: l).modify (i + 1) f) = r.cells ++ flat Rul.cells (l.modify i f) := by simp [flat]
    have e2 : flat Rul.cells (r :: l) = r.cells ++ flat Rul.cells l := rfl
    rw [e, e2, ih, show (i + 1) * 5 + k = i * 5 + k + 1 + 1 + 1 + 1 + 1 by omega]
    rfl
def Sch.mod (s : Sch) (i : Nat) (f : Rul → Rul) : Sch := { s with rules := s.rules.modify i f }
theorem mod_get (s : Sch) (i j : Nat) (f : Rul → Rul) : (s.mod i f).rules[j]? = (s.rules[j]?).map fun r => if i = j then f r else r := by
  simp only [Sch.mod, List.getElem?_modify]
  cases s.rules[j]? <;> simp
theorem MSch.putf {b : Nat} {W : World} {s : Sch} (h : MSch b W s) {i : Nat} (hi : i < s.rules.length) (f : Rul → Rul) (k : Nat) (v : Value) (hk : k < 5) (hf : (f s.rules[i]).cells = s.rules[i].cells.set k v) (hr : ∀ W, RowsOf W s.rules[i] → RowsOf W (f s.rules[i])) :
    ∃ g, s.ra = some ⟨g, 0, none⟩ ∧ b ≤ g ∧ (∃ cs, Blk W g cs 82) ∧ W.frozen? ⟨g, i * 5 + k, none⟩ = false ∧ (∃ u, W.cell? ⟨g, i * 5 + k, none⟩ = some u) ∧ MSch b (W.setCell ⟨g, i * 5 + k, none⟩ v) (s.mod i f) := by
  rcases h.row.2 with ⟨_, h0⟩ | ⟨g, cap, cur, hv, hb, hg, hnc, hcm, hcs, ht⟩
  · omega
  · have hra : s.ra = some ⟨g, 0, none⟩ ∧ s.rc = cap := by injection hv with h1 h2 h3; exact ⟨h1, h3⟩
    have gB : Blk W g cur 82 := hg
    have hlen : (flat Rul.cells s.rules).length = s.rules.length * 5 := h.row.1
    have hl2 : (s.mod i f).rules.length = s.rules.length := by simp [Sch.mod]
    have hsz : i * 5 + k < cur.size := by omega
    have hfl := flat_mod f k v hk s.rules i hi hf
    refine ⟨g, hra.1, hb, ⟨_, gB⟩, gB.free _, ⟨_, by rw [gB.cell]; exact Array.getElem?_eq_getElem hsz⟩, ⟨?_, fun r hr' => ?_, by rw [hl2]; exact h.len⟩⟩
    · rw [hl2]
      refine ⟨by show (flat Rul.cells (s.rules.modify i f)).length = _; rw [hfl, List.length_set]; exact hlen, .inr ⟨g, cap, cur.setIfInBounds (i * 5 + k) v, ?_, hb, gB.set _ _, hnc, hcm, by simpa using hcs, ?_⟩⟩
      · show Value.slice s.ra _ s.rc = _; rw [hra.1, hra.2]
      · show _ = flat Rul.cells (s.rules.modify i f)
        rw [hfl, ← ht, Array.toList_setIfInBounds, List.take_set]
    · have hkk : ∃ cs, Blk W g cs 82 := ⟨_, gB⟩
      have hput : ∀ q : Rul, RowsOf W q → RowsOf (W.setCell ⟨g, i * 5 + k, none⟩ v) q := fun q hq =>
        ⟨own_put' hq.w_ hkk (by decide) _ _, own_put' hq.u_ hkk (by decide) _ _, hq.l1, hq.l2, hq.ok⟩
      obtain ⟨j, hj, rfl⟩ := List.mem_iff_getElem.1 hr'
      have hj' : j < s.rules.length := by rw [hl2] at hj; exact hj
      have e : (s.mod i f).rules[j] = if i = j then f s.rules[j] else s.rules[j] := by
        simp only [Sch.mod, List.getElem_modify]
      rw [e]
      have h1 := hput _ (h.rows _ (List.getElem_mem hj'))
      split
      · rename_i hij; subst hij; exact hr _ h1
      · exact h1
/-- the rank of a rule is turned -/
def Rul.rk (x : Int) (r : Rul) : Rul := { r with rank := x }
theorem rk_cells (r : Rul) (x : Int) : (r.rk x).cells = r.cells.set 2 (.int .i64 x) := rfl
theorem rk_rows {W : World} {r : Rul} (x : Int) (h : RowsOf W r) : RowsOf W (r.rk x) := ⟨h.w_, h.u_, h.l1, h.l2, h.ok⟩
/-- the kinds of a rule are turned -/
def Rul.kn (x : Int) (r : Rul) : Rul := { r with kinds := x }
theorem kn_cells (r : Rul) (x : Int) : (r.kn x).cells = r.cells.set 1 (.int .i64 x) := rfl
theorem kn_rows {W : World} {r : Rul} (x : Int) (h : RowsOf W r) : RowsOf W (r.kn x) := ⟨h.w_, h.u_, h.l1, h.l2, h.ok⟩
theorem rulesB_dbl (s : Sch) : ∀ (l : List Rul) (i : Nat), rulesB s i l = true → (∀ r ∈ l, -50 ≤ r.rank ∧ r.rank ≤ 50) → rulesB s.dbl i (l.map Rul.dbl) = true
  | [], _, _, _ => rfl
  | r :: l, i, h, hr => by
    simp only [rulesB, List.map_cons, Bool.and_eq_true] at *
    refine ⟨?_, rulesB_dbl s l (i + 1) h.2 fun q hq => hr q (by simp [hq])⟩
    have h1 := h.1
    have h2 := hr r (by simp)
    simp only [ruleB, Bool.and_eq_true] at h1 ⊢
    refine ⟨⟨⟨⟨⟨h1.1.1.1.1.1, h1.1.1.1.1.2⟩, h1.1.1.1.2⟩, ?_⟩, h1.1.2⟩, h1.2⟩
    show inB (2 * r.rank) (-100) 100 = true
    exact inB_iff.2 ⟨by omega, by omega⟩
theorem schB_dbl {s : Sch} (h : schB s = true) (hr : ∀ r ∈ s.rules, -50 ≤ r.rank ∧ r.rank ≤ 50) : schB s.dbl = true := by
  simp only [schB, Bool.and_eq_true] at *
  refine ⟨?_, rulesB_dbl s s.rules 0 h.2 hr⟩
  have h1 := h.1
  simp only [baseB, dbl_len] at *
  exact h1
/-- the first i rules have ranks twice as great -/
def dblTo (i : Nat) (l : List Rul) : List Rul := (l.take i).map Rul.dbl ++ l.drop i
theorem dblTo_zero (l : List Rul) : dblTo 0 l = l := by simp [dblTo]
theorem dblTo_all (l : List Rul) : dblTo l.length l = l.map Rul.dbl := by simp [dblTo]
theorem dblTo_get (i : Nat) (l : List Rul) (j : Nat) : (dblTo i l)[j]? = (l[j]?).map fun r => if j < i then r.dbl else r := by
  unfold dblTo
  by_cases h : j < i
  · by_cases hj : j < l.length
    · rw [List.getElem?_append_left (by simp; omega), List.getElem?_map, List.getElem?_take]
      simp [h]
    · have h1 : l[j]? = none := List.getElem?_eq_none (by omega)
      rw [h1]
      exact List.getElem?_eq_none (by simp; omega)
  · by_cases hj : i ≤ l.length
    · rw [List.getElem?_append_right (by simp; omega)]
      have e : ((l.take i).map Rul.dbl).length = i := by simp; omega
      rw [e, List.getElem?_drop, show i + (j - i) = j by omega]
      simp [h]
    · have h1 : l[j]? = none := List.getElem?_eq_none (by omega)
      rw [h1]
      exact List.getElem?_eq_none (by simp; omega)
theorem sch_ext' {a b : Sch} (h1 : a.places = b.places) (h2 : a.signs = b.signs) (h3 : a.kinds = b.kinds) (h4 : a.answers = b.answers) (h5 : a.ra = b.ra) (h6 : a.rc = b.rc) (h7 : ∀ j : Nat, a.rules[j]? = b.rules[j]?) : a = b := by
  obtain ⟨p, sg, k, an, ra, rc, rs⟩ := a
  obtain ⟨p', sg', k', an', ra', rc', rs'⟩ := b
  simp only at *
  subst h1 h2 h3 h4 h5 h6
  rw [List.ext_getElem? h7]
/-- a school whose first i ranks are twice as great, without addresses -/
def plD (s : Sch) (i : Nat) : Sch := ({ s with rules := dblTo i s.rules } : Sch).pl
theorem plD_zero (s : Sch) : plD s 0 = s.pl := by simp only [plD, dblTo_zero]
theorem plD_all (s : Sch) : plD s s.rules.length = s.dbl.pl := by simp only [plD, dblTo_all]; rfl
theorem plD_get (s : Sch) (i j : Nat) : (plD s i).rules[j]? = (s.rules[j]?).map fun r => (if j < i then r.dbl else r).pl := by
  simp only [plD]
  rw [get_pl]
  show ((dblTo i s.rules)[j]?).map Rul.pl = _
  rw [dblTo_get]
  cases s.rules[j]? <;> simp
theorem plD_len {s q : Sch} {i : Nat} (h : q.pl = plD s i) : q.rules.length = s.rules.length := by
  have h1 := congrArg (fun x => x.rules.length) h
  have h2 : ∀ l : List Rul, (dblTo i l).length = l.length := fun l => by simp [dblTo]; omega
  simpa [plD, len_pl, h2] using h1
/-- the rank that rule i still has, and the next state -/
theorem plD_step {s q : Sch} {i : Nat} (h : q.pl = plD s i) (hi : i < s.rules.length) (hq : i < q.rules.length) : q.rules[i].rank = s.rules[i].rank ∧ (q.mod i (Rul.rk (2 * s.rules[i].rank))).pl = plD s (i + 1) := by
  have hg : ∀ j : Nat, (q.rules[j]?).map Rul.pl = (s.rules[j]?).map fun r => (if j < i then r.dbl else r).pl := fun j => by
    rw [← get_pl, h, plD_get]
  have h1 := hg i
  rw [List.getElem?_eq_getElem hi, List.getElem?_eq_getElem hq] at h1
  simp only [Option.map_some, Option.some.injEq, Nat.lt_irrefl, if_false] at h1
  refine ⟨by have := congrArg Rul.rank h1; exact this, ?_⟩
  have hp : q.places = s.places ∧ q.signs = s.signs ∧ q.kinds = s.kinds ∧ q.answers = s.answers := by
    have h3 := congrArg Sch.places h; have h4 := congrArg Sch.signs h; have h5 := congrArg Sch.kinds h; have h6 := congrArg Sch.answers h
    exact ⟨h3, h4, h5, h6⟩
  refine sch_ext' hp.1 hp.2.1 hp.2.2.1 hp.2.2.2 rfl rfl fun j => ?_
  rw [plD_get, get_pl, mod_get]
  have h2 := hg j
  by_cases hj : i = j
  · subst hj
    rw [List.getElem?_eq_getElem hi, List.getElem?_eq_getElem hq]
    simp only [Option.map_some, if_true, Nat.lt_succ_self]
    congr 1
    have e : q.rules[i].pl = s.rules[i].pl := h1
    have e1 : (Rul.rk (2 * s.rules[i].rank) q.rules[i]).pl = Rul.rk (2 * s.rules[i].rank) q.rules[i].pl := rfl
    rw [e1, e]; rfl
  · cases hqj : q.rules[j]? with
    | none =>
      rw [hqj] at h2
      cases hsj : s.rules[j]? with
      | none => rfl
      | some r => rw [hsj] at h2; cases h2
    | some r =>
      rw [hqj] at h2
      cases hsj : s.rules[j]? with
      | none => rw [hsj] at h2; cases h2
      | some r' =>
        rw [hsj] at h2
        simp only [Option.map_some, Option.some.injEq, if_neg hj] at h2 ⊢
        rw [h2]
        by_cases hlt : j < i
        · have : j < i + 1 := by omega
          simp [hlt, this]
        · have : ¬ j < i + 1 := by omega
          simp [hlt, this]
end Go.Proofs.Ytidlmbajpbbilaa
namespace Go.Proofs.Ytidlmbajpbbilaa
open Go.RowKit

theorem saidTo_ex {s : Sch} {L a : Nat} : ∀ n, saidTo s L n a = true → ∃ i, i < n ∧ L.testBit i = true ∧ sys s i = a
  | 0, h => by cases h
  | n + 1, h => by
    simp only [saidTo, Bool.or_eq_true, Bool.and_eq_true, beq_iff_eq] at h
    rcases h with h | ⟨h1, h2⟩
    · obtain ⟨i, h1, h2, h3⟩ := saidTo_ex n h
      exact ⟨i, by omega, h2, h3⟩
    · exact ⟨n, by omega, h1, h2.symm⟩
/-- an answer comes of a rule that speaks -/
theorem ans_spk {s : Sch} {kind : Int} {ch : List Int} {a : Nat} (h : ansOf s 0 kind ch a = true) : ∃ i, i < s.rules.length ∧ spk s kind ch i = true := by
  obtain ⟨i, h1, h2, _⟩ := saidTo_ex _ h
  refine ⟨i, h1, ?_⟩
  unfold mainN at h2
  rw [bset_testBit] at h2
  simp only [Bool.and_eq_true] at h2
  have h3 : mainS s (spk s kind ch) s.rules.length i = true := h2.2
  simp only [mainS, Bool.and_eq_true] at h3
  exact h3.1
def kdOf (s : Sch) (kind : Int) (ch : List Int) : Int := kindOf ((List.range 20).filter (ansOf s 0 kind ch))
/-- what is not silent is read as before -/
theorem ranks_same {s : Sch} {r : Rul} {kind : Int} {ch : List Int} (hr : ∀ i, i < s.rules.length → r.rank < rnk s i) (h : kdOf s kind ch ≠ 2) :
    kdOf (s.wide r) kind ch = kdOf s kind ch ∧ ansN (s.wide r) 0 kind ch = ansN s 0 kind ch ∧ mainN (s.wide r) 0 kind ch = mainN s 0 kind ch := by
  have hne : (List.range 20).filter (ansOf s 0 kind ch) ≠ [] := fun e => h (by unfold kdOf; rw [e]; rfl)
  obtain ⟨a, ha⟩ := List.exists_mem_of_ne_nil _ hne
  obtain ⟨h1, h2⟩ := wide_same s r kind ch (ans_spk (List.mem_filter.1 ha).2) hr
  refine ⟨by unfold kdOf; rw [h2], by unfold ansN; rw [h2], h1⟩
/-- what is silent is not split -/
theorem ranks_few {s : Sch} (V : Valid s) {r : Rul} {kind : Int} {ch : List Int} (hk : ∀ i, -101 < rnk s i) (h : kdOf s kind ch = 2) : kdOf (s.wide r) kind ch ≠ 3 := by
  have hno : ∀ i, i < s.rules.length → spk s kind ch i = false := fun i hi => by
    cases hs : spk s kind ch i with
    | false => rfl
    | true =>
      obtain ⟨j, hj, hja⟩ := loud (s := s) (kind := kind) (ch := ch) (fun i _ => hk i) ⟨i, hi, hs⟩
      have hlt := saidTo_lt V _ hja
      have := V.answers
      have hm : sys s j ∈ (List.range 20).filter (ansOf s 0 kind ch) := List.mem_filter.2 ⟨List.mem_range.2 (by omega), hja⟩
      have h2 := kindOf_two h
      rw [h2] at hm; cases hm
  have hf := wide_few s r kind ch hno
  intro h3
  have hl : 1 < ((List.range 20).filter (ansOf (s.wide r) 0 kind ch)).length := by
    unfold kdOf kindOf at h3
    split at h3
    · omega
    · split at h3 <;> omega
  have hnd : ((List.range 20).filter (ansOf (s.wide r) 0 kind ch)).Pairwise (· < ·) := List.pairwise_lt_range.filter _
  match hc : (List.range 20).filter (ansOf (s.wide r) 0 kind ch) with
  | [] => rw [hc] at hl; simp at hl
  | [_] => rw [hc] at hl; simp at hl
  | x :: y :: l =>
    have hx := hf x (List.mem_filter.1 (show x ∈ (List.range 20).filter (ansOf (s.wide r) 0 kind ch) by rw [hc]; simp)).2
    have hy := hf y (List.mem_filter.1 (show y ∈ (List.range 20).filter (ansOf (s.wide r) 0 kind ch) by rw [hc]; simp)).2
    rw [hc] at hnd
    have := (List.pairwise_cons.1 hnd).1 y (by simp)
    omega
/-- the set of all figures of a school -/
theorem full_eq : ∀ k < 65, (18446744073709551615 : Nat) / 2 ^ (64 - k) = 2 ^ k - 1 := by decide +kernel
theorem full_int {sg : Int} (h1 : 1 ≤ sg) (h2 : sg ≤ 64) : (18446744073709551615 : Int) / 2 ^ (64 - sg).toNat = (2 : Int) ^ sg.toNat - 1 := by
  obtain ⟨k, rfl⟩ := Int.eq_ofNat_of_zero_le (a := sg) (by omega)
  have h := full_eq k (by omega)
  have e : ((64 : Int) - (k : Int)).toNat = 64 - k := by omega
  have hp : 1 ≤ (2 : Nat) ^ k := Nat.one_le_two_pow
  rw [e, Int.toNat_natCast]
  have h3 : ((18446744073709551615 / 2 ^ (64 - k) : Nat) : Int) = ((2 ^ k - 1 : Nat) : Int) := by rw [h]
  rw [Int.natCast_ediv] at h3
  rw [Int.natCast_sub hp] at h3
  simpa using h3
theorem full_fits {sg : Int} (h1 : 1 ≤ sg) : fitsB sg ((2 : Int) ^ sg.toNat - 1) = true := by
  have hp : (0 : Int) < 2 ^ sg.toNat := Int.pow_pos (by omega)
  simp only [fitsB, decide_eq_true_eq]
  exact Int.ediv_eq_zero_of_lt (by omega) (by omega)
theorem full_u64 {sg : Int} (h1 : 1 ≤ sg) (h2 : sg ≤ 64) : IsU64 ((2 : Int) ^ sg.toNat - 1) := by
  have hp : (0 : Int) < 2 ^ sg.toNat := Int.pow_pos (by omega)
  have hn : (2 : Nat) ^ sg.toNat ≤ 2 ^ 64 := Nat.pow_le_pow_right (by omega) (by omega)
  have hi : (2 : Int) ^ sg.toNat ≤ 18446744073709551616 := by
    have h3 : ((2 ^ sg.toNat : Nat) : Int) ≤ ((2 ^ 64 : Nat) : Int) := by omega
    simpa using h3
  exact ⟨by omega, by omega⟩
theorem full_bit {sg : Int} (h1 : 1 ≤ sg) : bitB ((2 : Int) ^ sg.toNat - 1) 0 = true := by
  obtain ⟨k, hk⟩ : ∃ k, sg.toNat = k + 1 := ⟨sg.toNat - 1, by omega⟩
  unfold bitB
  rw [hk, Int.pow_succ]
  simp only [Int.toNat_zero, Int.pow_zero, Int.ediv_one, beq_iff_eq]
  omega
end Go.Proofs.Ytidlmbajpbbilaa

/- Helpers of the laws: own; schools up to their addresses. -/
import Derived.Test.YtidlmbajpbbilaaHlA
namespace Go.Proofs.Ytidlmbajpbbilaa
open Go.RowKit

/-- a rule, a school without addresses -/
def Rul.pl (r : Rul) : Rul := { r with wa := none, wc := 0, ua := none, uc := 0 }
def Sch.pl (s : Sch) : Sch := { s with ra := none, rc := 0, rules := s.rules.map Rul.pl }
theorem get_pl (s : Sch) (i : Nat) : s.pl.rules[i]? = (s.rules[i]?).map Rul.pl := by simp [Sch.pl]
theorem len_pl (s : Sch) : s.pl.rules.length = s.rules.length := by simp [Sch.pl]
theorem rulesB_pl (s : Sch) : ∀ (l : List Rul) (i : Nat), rulesB s.pl i (l.map Rul.pl) = rulesB s i l
  | [], _ => rfl
  | r :: l, i => by simp only [List.map_cons, rulesB, rulesB_pl s l]; rfl
theorem schB_pl (s : Sch) : schB s.pl = schB s := by
  unfold schB
  show (baseB s.pl && rulesB s.pl 0 (s.rules.map Rul.pl)) = _
  rw [rulesB_pl]
  congr 1
  simp only [baseB, len_pl]
  rfl
theorem appl_pl (s : Sch) (ch : List Int) : appl s.pl ch = appl s ch := by
  funext i; simp only [appl, get_pl]; cases s.rules[i]? <;> rfl
theorem spks_pl (s : Sch) (hold : Nat → Bool) (kind : Int) : ∀ n, spks s.pl hold kind n = spks s hold kind n
  | 0 => rfl
  | n + 1 => by
    have ih := spks_pl s hold kind n
    funext i
    simp only [spks, get_pl, ih]
    cases s.rules[n]? <;> rfl
theorem sp_pl (s : Sch) (hold : Nat → Bool) (kind : Int) : sp s.pl hold kind = sp s hold kind := by funext i; simp only [sp, spks_pl]
theorem rnk_pl (s : Sch) : rnk s.pl = rnk s := by funext i; simp only [rnk, get_pl]; cases s.rules[i]? <;> rfl
theorem topR_pl (s : Sch) (f : Nat → Bool) : ∀ n, topR s.pl f n = topR s f n
  | 0 => rfl
  | n + 1 => by simp only [topR, topR_pl s f n, rnk_pl]
theorem mainOf_pl (s : Sch) (O : Nat) (kind : Int) (ch : List Int) : mainOf s.pl O kind ch = mainOf s O kind ch := by
  funext i; simp only [mainOf, mainS, topR_pl, rnk_pl, sp_pl, appl_pl, len_pl]
theorem mainN_pl (s : Sch) (O : Nat) (kind : Int) (ch : List Int) : mainN s.pl O kind ch = mainN s O kind ch := by simp only [mainN, mainOf_pl, len_pl]
theorem sys_pl (s : Sch) : sys s.pl = sys s := by funext i; simp only [sys, get_pl]; cases s.rules[i]? <;> rfl
theorem saidTo_pl (s : Sch) (L : Nat) : ∀ n, saidTo s.pl L n = saidTo s L n
  | 0 => rfl
  | n + 1 => by funext a; simp only [saidTo, saidTo_pl s L n, sys_pl]
theorem ansOf_pl (s : Sch) (O : Nat) (kind : Int) (ch : List Int) : ansOf s.pl O kind ch = ansOf s O kind ch := by simp only [ansOf, mainN_pl, len_pl, saidTo_pl]
theorem ansN_pl (s : Sch) (O : Nat) (kind : Int) (ch : List Int) : ansN s.pl O kind ch = ansN s O kind ch := by simp only [ansN, ansOf_pl]
theorem readR_pl (s : Sch) (ch : List Int) (kind : Int) : readR s.pl ch kind = readR s ch kind := by
  simp only [readR, schB_pl, ansOf_pl, ansN_pl, mainN_pl]; rfl
theorem chartR_pl (s : Sch) (n : Int) : chartR s.pl n = chartR s n := by simp only [chartR, schB_pl]; rfl
theorem numberR_pl (s : Sch) (l : List Int) : numberR s.pl l = numberR s l := by simp only [numberR, schB_pl]; rfl
theorem countR_pl (s : Sch) (kind : Int) (sets : List Int) : countR s.pl kind sets = countR s kind sets := by
  have h1 : silR s.pl sets kind = silR s sets kind := by funext k; simp only [silR, kdAt, ansL, ansOf_pl]; rfl
  have h2 : splR s.pl sets kind = splR s sets kind := by funext k; simp only [splR, kdAt, ansL, ansOf_pl]; rfl
  have h3 : ∀ k, saidL s.pl sets kind k = saidL s sets kind k := fun k => by
    simp only [saidL]
    refine List.map_congr_left fun a _ => ?_
    congr 1; funext k; simp only [saidR, ansL, ansOf_pl]; rfl
  simp only [countR, schB_pl, h1, h2, h3]; rfl
theorem differR_pl (a b : Sch) (kind : Int) : differR a.pl b.pl kind = differR a b kind := by
  simp only [differR, schB_pl, ansN_pl]; rfl
theorem sameB_pl (s : Sch) (O : Nat) : sameB s.pl O = sameB s O := by simp only [sameB, ansN_pl]; rfl
theorem idleR_pl (s : Sch) : idleR s.pl = idleR s := by simp only [idleR, schB_pl, idleL, len_pl, sameB_pl]
/-- nil slices have no capacity -/
def Rul.nil0 (r : Rul) : Prop := (r.wa = none → r.wc = 0) ∧ (r.ua = none → r.uc = 0)
def Sch.nil0 (s : Sch) : Prop := (s.ra = none → s.rc = 0) ∧ ∀ r ∈ s.rules, r.nil0
/-- a school with lists of its own is returned -/
def RetOwnS (s : Sch) (w : World) (e : Ending) (w' : World) : Prop := ∃ s' : Sch, e = .returned (scv s' s'.rv) ∧ s'.pl = s.pl ∧ s'.reads w' w'.heap.size ∧ s'.nil0 ∧ Below w.heap.size w w'
theorem infoRule : (Try.prog.info? 82).map (fun i => (i.zero, i.size, i.bytes)) = some (some (.agg #[.slice none 0 0, .int .i64 0, .int .i64 0, .slice none 0 0, .int .i64 0]), 5, 72) := by kernel_rfl
theorem uRules : Try.prog.underlying 22 = some (.slice 82) := by kernel_rfl
theorem ownsRow_apart {W : World} {b b' s s' n n' : Nat} {e e' : TypeId} {v v' : Value} {xs xs' : List Value} (h : W.ownsRow b e s v n xs) (h' : W.ownsRow b' e' s' v' n' xs') (hne : e ≠ e') : v.ownBlock = none ∨ v.ownBlock ≠ v'.ownBlock := by
  rcases h.2 with ⟨rfl, _⟩ | ⟨g, cap, cur, rfl, _, hg, _⟩
  · exact .inl rfl
  · rcases h'.2 with ⟨rfl, _⟩ | ⟨g', cap', cur', rfl, _, hg', _⟩
    · right; simp [Value.ownBlock]
    · right
      simp only [Value.ownBlock, ne_eq, Option.some.injEq]
      rintro rfl
      rw [hg] at hg'; cases hg'; exact hne rfl
/-- a rule whose lists are rows -/
structure RowsOf (W : World) (r : Rul) : Prop where
  w_ : W.ownsRow 0 103 4 (.slice r.wa r.when_.length r.wc) r.when_.length (flat Tst.cells r.when_)
  u_ : W.ownsRow 0 3 1 (.slice r.ua r.unless_.length r.uc) r.unless_.length (flat intCell r.unless_)
  l1 : r.when_.length ≤ 1000000
  l2 : r.unless_.length ≤ 1000000
  ok : ∀ t ∈ r.when_, t.ok
theorem RowsOf.grown {W W' : World} {r : Rul} (h : RowsOf W r) {row : Option Nat} (hg : W.grownBy W' row) (hr : ∀ e (v : Value), (e = 103 ∨ e = 3) → (∃ s n xs, W.ownsRow 0 e s v n xs) → v.ownBlock = none ∨ v.ownBlock ≠ row) : RowsOf W' r :=
  ⟨h.w_.kept hg (hr _ _ (.inl rfl) ⟨_, _, _, h.w_⟩), h.u_.kept hg (hr _ _ (.inr rfl) ⟨_, _, _, h.u_⟩), h.l1, h.l2, h.ok⟩
theorem RowsOf.below {W W' : World} {r : Rul} (h : RowsOf W r) (hb : Below W.heap.size W W') : RowsOf W' r :=
  h.grown (grown_of_below hb) fun e v _ _ => by cases hv : v.ownBlock <;> simp
theorem RowsOf.reads {W : World} {r : Rul} (h : RowsOf W r) : r.reads W W.heap.size := by
  obtain ⟨A, c, hv, hs⟩ := Sl.of_own h.w_
  obtain ⟨A2, c2, hv2, hs2⟩ := Sl.of_own h.u_
  cases hv; cases hv2
  exact ⟨hs, hs2, h.l1, h.l2, h.ok⟩
theorem RowsOf.nil {W : World} {r : Rul} (h : RowsOf W r) : r.nil0 := by
  refine ⟨fun e => ?_, fun e => ?_⟩
  · rcases h.w_.2 with ⟨hv, _⟩ | ⟨g, cap, cur, hv, _⟩
    · injection hv
    · rw [e] at hv; cases hv
  · rcases h.u_.2 with ⟨hv, _⟩ | ⟨g, cap, cur, hv, _⟩
    · injection hv
    · rw [e] at hv; cases hv
theorem oneCell_tests (l : List Tst) (_h : ∀ t ∈ l, t.ok) : ∀ u ∈ flat Tst.cells l, u.oneCell' = true := fun u hu => by
  obtain ⟨t, ht, hu⟩ := List.mem_flatMap.1 hu
  simp only [Tst.cells, List.mem_cons, List.not_mem_nil, or_false] at hu
  rcases hu with rfl | rfl | rfl | rfl <;> simp [Value.oneCell']
theorem oneCell_ints (l : List Int) : ∀ u ∈ flat intCell l, u.oneCell' = true := fun u hu => by
  obtain ⟨t, ht, hu⟩ := List.mem_flatMap.1 hu
  simp only [List.mem_cons, List.not_mem_nil, or_false] at hu
  subst hu; simp [Value.oneCell']
end Go.Proofs.Ytidlmbajpbbilaa

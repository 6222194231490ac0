/- The law SchoolReads: the walk. -/
import Derived.Test.YtidlmbajpbbilaaZ20HlF
import Derived.Test.YtidlmbajpbbilaaZ21ChA
import Derived.Deep.RegionHeld
namespace Go.Proofs.Ytidlmbajpbbilaa
open Go.RowKit

theorem Rul.wreads.below {w w' : World} {B : Nat} {r : Rul} (h : r.wreads w B) (hb : Below B w w') : r.wreads w' B := ⟨h.1.below hb, h.2.1.below hb, h.2.2⟩
theorem Rul.wreads.more {w : World} {B B' : Nat} {r : Rul} (h : r.wreads w B) (hb : B ≤ B') : r.wreads w B' := ⟨h.1.more hb, h.2.1.more hb, h.2.2⟩
theorem Sch.wreads.below {w w' : World} {B : Nat} {s : Sch} (h : s.wreads w B) (hb : Below B w w') : s.wreads w' B := ⟨h.1.below hb, fun r hr => (h.2 r hr).below hb⟩
theorem Sch.wreads.more {w : World} {B B' : Nat} {s : Sch} (h : s.wreads w B) (hb : B ≤ B') : s.wreads w B' := ⟨h.1.more hb, fun r hr => (h.2 r hr).more hb⟩
theorem not_large {s : Sch} {N : Int} (h : largeB s N = false) : s.rules.length ≤ 35 ∧ s.rules.all rsB = true ∧ (schB s = true → chartsN s.signs s.places.toNat ≤ N) := by
  simp only [largeB, Bool.not_eq_false', Bool.and_eq_true, decide_eq_true_eq, Bool.not_eq_true', Bool.and_eq_false_iff, decide_eq_false_iff_not] at h
  refine ⟨h.1.1, h.1.2, fun hv => ?_⟩
  rcases h.2 with h2 | h2
  · rw [hv] at h2; cases h2
  · omega
/-- own, with what is wanted of the copy -/
def RetOwnA (s : Sch) (w : World) (e : Ending) (w' : World) : Prop := ∃ s' : Sch, e = .returned (scv s' s'.rv) ∧ s'.reads w' w'.heap.size ∧ Below w.heap.size w w' ∧ schB s' = schB s ∧ (∀ n, chartR s' n = chartR s n) ∧ (∀ l, numberR s' l = numberR s l) ∧ (∀ ch k, readR s' ch k = readR s ch k)
theorem owna_any (s : Sch) (w : World) (hr : s.reads w w.heap.size) (h0 : s.nil0) (hl : s.rules.length ≤ 35) : Calls Try.prog 17 #[scv s s.rv] w (RetOwnA s w) :=
  (own_any s w hr h0 (by omega)).mono fun e w' ⟨s', h1, h2, h3, h4, h5⟩ =>
    ⟨s', h1, h3, h5, by rw [← schB_pl s', h2, schB_pl], fun n => by rw [← chartR_pl s', h2, chartR_pl], fun l => by rw [← numberR_pl s', h2, numberR_pl], fun ch k => by rw [← readR_pl s', h2, readR_pl]⟩

def errB (v : Bool) : Int := if v then 0 else 2
theorem chke_any {s : Sch} {v : Bool} (h : schB s = v) (w : World) (hr : s.reads w w.heap.size) : Calls Try.prog 36 #[scv s s.rv] w fun e w' => e = .returned (.int .i64 (errB v)) ∧ Below w.heap.size w w' := chk_any h w hr
theorem sl_al {α : Type} {f : α → List Value} {size : Nat} {w W : World} {A : Option Addr} {l : List α} {o : Obj} (h : Sl f size w w.heap.size A l) (hb : Below w.heap.size w W) : Sl f size (W.alloc o) (W.alloc o).heap.size A l := (h.below (bla hb)).more (bla hb).size
theorem v3_of {s : Sch} (ho : ∀ r ∈ s.rules, ∀ t ∈ r.when_, t.ok) (h : schB s = true) : ∀ r ∈ s.rules, ∀ t ∈ r.when_, TestFit3 s.places.toNat t := fun r hr t ht => by
  have hp : 1 ≤ s.places := (small_of_sch h).1
  have h1 : rulesB s 0 s.rules = true := by simp only [schB, Bool.and_eq_true] at h; exact h.2
  obtain ⟨i, hi, rfl⟩ := List.mem_iff_getElem.1 hr
  have h2 := rulesB_get h1 i hi
  simp only [ruleB, testsB, Bool.and_eq_true, List.all_eq_true] at h2
  exact tstB_fit3 (ho _ hr t ht) hp (h2.1.1.1.1.2.2 t ht)
theorem chart_facts {s : Sch} (hs : Small s) {ch : List Int} (h : chartB s ch = true) : ch.length = s.places.toNat ∧ ∀ x ∈ ch, 0 ≤ x ∧ x ≤ 63 := by
  simp only [chartB, Bool.and_eq_true, decide_eq_true_eq, List.all_eq_true, inB_iff] at h
  obtain ⟨h1, h2⟩ := h
  have := hs.2.2.2
  exact ⟨by omega, fun x hx => by have := h2 x hx; omega⟩
theorem read_readP {s : Sch} {ch : List Int} {kind rk re : Int} {RQ RM : List Int} (hv : schB s = true) (hcb : chartB s ch = true) (hkb : inB kind 0 (s.kinds - 1) = true) (h : readR s ch kind = (rk, RQ, RM, re)) : readP s kind ch = (rk, RQ, RM) ∧ re = 0 := by
  simp only [readR, hv, hcb, hkb, if_true, Prod.mk.injEq] at h
  obtain ⟨h1, h2, h3, h4⟩ := h
  exact ⟨by simp only [readP, h1, h2, h3], h4.symm⟩
theorem bitsOf_len (n : Nat) : (bitsOf n).length ≤ 1000000 := by
  have := upBits_len n 31; simp only [bitsOf]; omega
theorem SQ_len {s : Sch} {ch : List Int} {kind rk : Int} {RQ RM : List Int} (h : readP s kind ch = (rk, RQ, RM)) : RQ.length ≤ 1000000 := by
  simp only [readP, Prod.mk.injEq] at h
  rw [← h.2.1]; exact bitsOf_len _
theorem SM_len {s : Sch} {ch : List Int} {kind rk : Int} {RQ RM : List Int} (h : readP s kind ch = (rk, RQ, RM)) : RM.length ≤ 1000000 := by
  simp only [readP, Prod.mk.injEq] at h
  rw [← h.2.2]; exact bitsOf_len _
set_option maxRecDepth 100000 in
set_option maxHeartbeats 8000000 in
theorem lwreads_no (s : Sch) (A : Option Addr) (c : Nat) (ch : List Int) (n kind : Int) (w : World) (HRR : Hid (s.wreads w w.heap.size)) (HN0 : Hid s.nil0) (HAA : Hid (Sl intCell 1 w w.heap.size A ch)) (hn : A = none → c = 0)
    (hg : largeB s 4096 = false) (hc10 : ch.length ≤ 10) (hv : schB s = false) :
    Calls Try.prog 10 #[scv s s.rv, .slice A ch.length c, .agg #[.int .i64 n, .int .i64 kind]] w fun e w' => e = .returned (.bool true) ∧ Below w.heap.size w w' := by
  obtain ⟨hlen, hall, -⟩ := not_large hg
  have d1 : decide (10 < (ch.length : Int)) = false := by simp; omega
  have d1' : decide (10 < ch.length) = false := by simp; omega
  have hrd := reads_of_weak HRR.out hlen hall
  obtain ⟨E0, hE0⟩ : ∃ x, errB (schB s) = x := ⟨_, rfl⟩
  obtain ⟨L, er, hLE⟩ : ∃ x y, chartR s n = (x, y) := ⟨_, _, rfl⟩
  obtain ⟨nm, ne, hNE⟩ : ∃ x y, numberR s ch = (x, y) := ⟨_, _, rfl⟩
  obtain ⟨rk, RQ, RM, re, hRE⟩ : ∃ x y z u, readR s ch kind = (x, y, z, u) := ⟨_, _, _, _, rfl⟩
  have HE0 := Lib.hid hE0; have HLE := Lib.hid hLE; have HNE := Lib.hid hNE; have HRE := Lib.hid hRE
  clear hE0 hLE hNE hRE
  have HR := Lib.hid hrd
  clear hrd hall
  go_enter Try.func10, Try.ntmps10
  go_wp2_with (first | (go_at_call 14; refine (large_any s 4096 _ ((HRR.out.below (by (repeat (first | exact Below.refl _ _ | assumption | (refine Below.alloc ?_ (by first | omega | (simp; omega) | (simp; done)) _) | (refine Below.setCell ?_ (by first | omega | (simp; omega) | (simp; done)) _) | (refine Below.drew ?_) | (refine belowN ?_ _) | (refine Below.trans ?_ (Below.mono ‹Below _ _ _› (by first | omega | (simp; omega) | (simp; done)))))))).more (by simp; omega))).mono ?_; rintro _ W1 ⟨rfl, hb1⟩; have hw1 : Below w.heap.size w W1 := bl2 (bla (bla (Below.refl _ _))) hb1; have g1 : Blk W1 w.heap.size #[.int .i64 s.places, .int .i64 s.signs, .int .i64 s.kinds, .int .i64 s.answers, s.rv] 24 := ((Blk.at_ rfl).alloc _).below hb1 (by first | omega | (simp; omega) | (simp; done)); have g2 : Blk W1 (w.heap.size + 1) #[.int .i64 n, .int .i64 kind] 87 := (Blk.at_ (by simp)).below hb1 (by first | omega | (simp; omega) | (simp; done)); rw [hg]; have gc := g1.cell; have s0 := gc 0; have s1 := gc 1; have s2 := gc 2; have s3 := gc 3; have s4 := gc 4; have k0 := g2.cell 0; have k1 := g2.cell 1; simp at s0 s1 s2 s3 s4 k0 k1; clear gc))
  go_region
  refine gen_w (fun W => Below w.heap.size w W ∧ Blk W w.heap.size #[.int .i64 s.places, .int .i64 s.signs, .int .i64 s.kinds, .int .i64 s.answers, s.rv] 24) ⟨Below.drew hw1, g1⟩ ?_
  clear hb1 d1 d1' s0 s1 s2 s3 s4 k0 k1 g1 g2 hw1
  clear W1
  rintro W1 ⟨hw1, g1⟩
  go_wp2_with (go_at_call 38; refine (lints_any A c ch _ (by omega) hn (oneCell_ints _) ((HAA.out.below hw1).more hw1.size)).mono ?_; rintro _ W2 ⟨v, rfl, hown, hb2⟩; refine Hid.out ?_)
  have hw2 : Below w.heap.size w W2 := bl2 hw1 hb2
  obtain ⟨A', c', rfl, hA'⟩ := Sl.of_own hown
  have g1 := g1.below hb2 g1.lt
  have s0 := g1.cell 0; have s1 := g1.cell 1; have s2 := g1.cell 2; have s3 := g1.cell 3; have s4 := g1.cell 4
  simp at s0 s1 s2 s3 s4
  have HA' := Lib.hid hA'
  clear hown hA' hb2 hw1
  refine Lib.hid ?_
  go_wp2_with (first | (go_at_call 17; refine (owna_any s _ ((HR.out.below hw2).more hw2.size) HN0.out hlen).mono ?_; rintro _ W3 ⟨s', rfl, hr', hbo, hv', hc1', hn1', hr1'⟩; have HRR' := Lib.hid hr'; clear hr') | (go_at_call 36; refine (chke_any hv' _ HRR'.out).mono ?_; rw [HE0.out]; rintro _ W4 ⟨rfl, hb4⟩; refine Hid.out ?_))
  have hx4 : Below W2.heap.size W2 W4 := bl2 hbo hb4
  have hw4 := bl2 hw2 hx4
  have ha4 := Lib.hid ((HA'.out.below hx4).more hx4.size)
  have g1 := g1.below hx4 g1.lt
  have s0 := g1.cell 0; have s1 := g1.cell 1; have s2 := g1.cell 2; have s3 := g1.cell 3; have s4 := g1.cell 4
  simp at s0 s1 s2 s3 s4
  clear hbo hb4 HRR' hc1' hn1' hr1' hx4 HA' hv'
  refine Lib.hid ?_
  go_wp2_with (first | (go_at_call 17; refine (owna_any s _ ((HR.out.below hw4).more hw4.size) HN0.out hlen).mono ?_; rintro _ W5 ⟨s', rfl, hr', hbo, hv', hc1', hn1', hr1'⟩; have HRR' := Lib.hid hr'; clear hr') | (go_at_call 32; refine (chartF_any s' n _ HRR'.out).mono ?_; rw [hc1', HLE.out]; rintro _ W6 ⟨LA, lc, rfl, hL, hb6⟩; refine Hid.out ?_))
  have hx6 : Below W4.heap.size W4 W6 := bl2 hbo hb6
  have hw6 := bl2 hw4 hx6
  have ha6 := Lib.hid ((ha4.out.below hx6).more hx6.size)
  have HL := Lib.hid hL
  have g1 := g1.below hx6 g1.lt
  have s0 := g1.cell 0; have s1 := g1.cell 1; have s2 := g1.cell 2; have s3 := g1.cell 3; have s4 := g1.cell 4
  simp at s0 s1 s2 s3 s4
  clear hbo hb6 HRR' hc1' hn1' hr1' hx6 ha4 hL hw4 hv'
  refine Lib.hid ?_
  go_wp2_with (first | (go_at_call 17; refine (owna_any s _ ((HR.out.below hw6).more hw6.size) HN0.out hlen).mono ?_; rintro _ W7 ⟨s', rfl, hr', hbo, hv', hc1', hn1', hr1'⟩; have HRR' := Lib.hid hr'; clear hr') | (go_at_call 39; refine (number_any s' ch A' c' _ HRR'.out (by omega) ((ha6.out.below hbo).more hbo.size)).mono ?_; rw [hn1', HNE.out]; rintro _ W8 ⟨rfl, hb8⟩; refine Hid.out ?_))
  have hx8 : Below W6.heap.size W6 W8 := bl2 hbo hb8
  have hw8 := bl2 hw6 hx8
  have ha8 := Lib.hid ((ha6.out.below hx8).more hx8.size)
  have HL8 := Lib.hid ((HL.out.below hx8).more hx8.size)
  have g1 := g1.below hx8 g1.lt
  have s0 := g1.cell 0; have s1 := g1.cell 1; have s2 := g1.cell 2; have s3 := g1.cell 3; have s4 := g1.cell 4
  simp at s0 s1 s2 s3 s4
  clear hbo hb8 HRR' hc1' hn1' hr1' hx8 ha6 HL hw6 hv'
  refine Lib.hid ?_
  go_wp2_with (first | (go_at_call 17; refine (owna_any s _ ((HR.out.below hw8).more hw8.size) HN0.out hlen).mono ?_; rintro _ W9 ⟨s', rfl, hr', hbo, hv', hc1', hn1', hr1'⟩; have HRR' := Lib.hid hr'; clear hr') | (go_at_call 33; refine (read_any s' ch kind A' c' _ HRR'.out (by omega) ((ha8.out.below hbo).more hbo.size)).mono ?_; rw [hr1', HRE.out]; rintro _ W10 ⟨QA, qc, MA, mc, rfl, hQ, hM, hb10⟩; refine Hid.out ?_))
  have hx10 : Below W8.heap.size W8 W10 := bl2 hbo hb10
  have hw10 := bl2 hw8 hx10
  have ha10 := Lib.hid ((ha8.out.below hx10).more hx10.size)
  have HL10 := Lib.hid ((HL8.out.below hx10).more hx10.size)
  have HQ := Lib.hid hQ; have HM := Lib.hid hM
  have g1 := g1.below hx10 g1.lt
  have s0 := g1.cell 0; have s1 := g1.cell 1; have s2 := g1.cell 2; have s3 := g1.cell 3; have s4 := g1.cell 4
  simp at s0 s1 s2 s3 s4
  clear hbo hb10 HRR' hc1' hn1' hr1' hx10 ha8 HL8 hw8 hQ hM hv'
  refine Lib.hid ?_
  go_wp2_with (go_at_call 22; refine (lsame_any A' A c' c ch ch _ (by omega) (sl_al ha10.out (Below.refl _ _)) (sl_al HAA.out hw10)).mono ?_; rintro _ W11 ⟨e1, hb11⟩; rw [beq_self_eq_true] at e1; subst e1; refine Hid.out ?_)
  refine Lib.hid ?_
  have hx11 : Below W10.heap.size W10 W11 := bl3 (Below.refl _ _) hb11
  refine gen_w (fun W => Below w.heap.size w W ∧ Blk W w.heap.size #[.int .i64 s.places, .int .i64 s.signs, .int .i64 s.kinds, .int .i64 s.answers, s.rv] 24 ∧ Blk W W10.heap.size #[.int .i64 rk, .slice QA RQ.length qc, .slice MA RM.length mc] 73 ∧ Hid (Sl intCell 1 W W.heap.size LA L) ∧ Hid (Sl intCell 1 W W.heap.size QA RQ) ∧ Hid (Sl intCell 1 W W.heap.size MA RM) ∧ Hid (Sl intCell 1 W W.heap.size A ch))
    ⟨bl2 hw10 hx11, g1.below hx11 g1.lt, (Blk.new W10 _ _).below hb11 (by simp), (HL10.out.below hx11).more hx11.size, (HQ.out.below hx11).more hx11.size, (HM.out.below hx11).more hx11.size, (HAA.out.below (bl2 hw10 hx11)).more (bl2 hw10 hx11).size⟩ ?_
  obtain ⟨bk, hbk⟩ : ∃ x, W10.heap.size = x := ⟨_, rfl⟩
  rw [hbk]
  clear hx11 hb11 HL10 HQ HM hw10 g1 s0 s1 s2 s3 s4 ha10
  rintro W ⟨hw, g1, g3, SL, SQ, SM, SA⟩
  have s0 := g1.cell 0; have s1 := g1.cell 1; have s2 := g1.cell 2; have s3 := g1.cell 3; have s4 := g1.cell 4
  simp at s0 s1 s2 s3 s4
  have k0 := g3.cell 0; have k1 := g3.cell 1; have k2 := g3.cell 2
  simp at k0 k1 k2
  have h1 := HE0.out; rw [hv] at h1; change (2 : Int) = E0 at h1; subst h1
  have h2 := HLE.out; simp only [chartR, hv] at h2; cases h2
  have h3 := HNE.out; simp only [numberR, hv] at h3; cases h3
  have h4 := HRE.out; simp only [readR, hv] at h4; cases h4
  clear HE0 HLE HNE HRE
  go_wp2_with (first | (go_at_call 19; refine (rschool_any s _ ((HR.out.below hw).more hw.size)).mono ?_; rw [hv]; rintro _ Wx ⟨rfl, hbx⟩; have g3 := g3.below hbx g3.lt; have k0 := g3.cell 0; have k1 := g3.cell 1; have k2 := g3.cell 2; simp at k0 k1 k2) | (go_at_call 15; refine (known_any _).mono ?_; rintro _ Wy ⟨rfl, hby⟩))
  go_ret
  exact ⟨rfl, bl2 (bl2 hw hbx) hby⟩
end Go.Proofs.Ytidlmbajpbbilaa
namespace Go.Proofs.Ytidlmbajpbbilaa
open Go.RowKit

theorem sameB_zero (s : Sch) : sameB s 0 = true := by simp [sameB]
theorem stepM_same {s : Sch} {O : Nat} (i : Nat) (h : sameB s O = true) : sameB s (stepM s O i) = true := by
  unfold stepM; split
  · rename_i h2; simp only [Bool.and_eq_true] at h2; exact h2.2
  · exact h
theorem stepsM_same {s : Sch} {O : Nat} (h : sameB s O = true) : ∀ k, sameB s (stepsM s O k) = true
  | 0 => h
  | k + 1 => stepM_same _ (stepsM_same h k)
theorem passes_same (s : Sch) : ∀ j, sameB s (passes s j) = true
  | 0 => sameB_zero s
  | j + 1 => stepsM_same (passes_same s j) _
theorem min_same {s : Sch} {R : Nat} (h : MinOk s R) : sameB s R = true := by
  obtain ⟨_, j, rfl⟩ := h; exact passes_same s j
theorem stepsM_mono (s : Sch) (O : Nat) (k : Nat) : ∀ d, stepsM s O k ≤ stepsM s O (k + d)
  | 0 => Nat.le_refl _
  | d + 1 => Nat.le_trans (stepsM_mono s O k d) (stepM_le s _ _)
theorem min_tight {s : Sch} {R i : Nat} (h : MinOk s R) (hi : i < s.rules.length) (hb : R.testBit i = false) : sameB s (R ||| 2 ^ i) = false := by
  have h1 := h.1
  have hk : ∀ k, k ≤ s.rules.length → stepsM s R k = R := fun k hk => by
    have h2 := stepsM_mono s R k (s.rules.length - k)
    rw [show k + (s.rules.length - k) = s.rules.length by omega] at h2
    have h3 := stepsM_le s R k
    have h4 : stepsM s R s.rules.length = R := h1
    omega
  cases hs : sameB s (R ||| 2 ^ i) with
  | false => rfl
  | true =>
    exfalso
    have h5 := hk (s.rules.length - 1 - i + 1) (by omega)
    have h6 : stepsM s R (s.rules.length - 1 - i + 1) = stepM s (stepsM s R (s.rules.length - 1 - i)) (s.rules.length - 1 - (s.rules.length - 1 - i)) := rfl
    rw [h6, hk _ (by omega), show s.rules.length - 1 - (s.rules.length - 1 - i) = i by omega] at h5
    simp only [stepM, hb, hs, Bool.not_false, Bool.and_self, if_true] at h5
    have h7 : (R ||| 2 ^ i).testBit i = true := by simp [Nat.testBit_or, Nat.testBit_two_pow]
    rw [h5, hb] at h7; cases h7
theorem off1_get (s : Sch) (i j : Nat) : (s.off1 i).rules[j]? = (s.rules[j]?).map fun r => if i = j then r.off true else r := by
  simp only [Sch.off1, List.getElem?_modify]
  cases s.rules[j]? <;> simp
theorem sch_ext {a b : Sch} (h1 : a.places = b.places) (h2 : a.signs = b.signs) (h3 : a.kinds = b.kinds) (h4 : a.answers = b.answers) (h5 : a.ra = b.ra) (h6 : a.rc = b.rc) (h7 : ∀ j : Nat, a.rules[j]? = b.rules[j]?) : a = b := by
  obtain ⟨p, sg, k, an, ra, rc, rs⟩ := a
  obtain ⟨p', sg', k', an', ra', rc', rs'⟩ := b
  simp only at *
  subst h1 h2 h3 h4 h5 h6
  rw [List.ext_getElem? h7]
theorem pl_off1 (s : Sch) (i : Nat) : (s.off1 i).pl = s.pl.off1 i := by
  refine sch_ext rfl rfl rfl rfl rfl rfl fun j => ?_
  rw [get_pl, off1_get, off1_get, get_pl]
  cases s.rules[j]? with
  | none => rfl
  | some r => simp only [Option.map_some]; split <;> rfl
/-- the school without the rules O, without addresses -/
def plO (s : Sch) (O : Nat) : Sch := (s.offs O none 0).pl
theorem plO_zero (s : Sch) : plO s 0 = s.pl := by
  refine sch_ext rfl rfl rfl rfl rfl rfl fun j => ?_
  simp only [plO]
  rw [get_pl, offs_get, get_pl]
  cases s.rules[j]? with
  | none => rfl
  | some r => simp [Rul.off, Nat.zero_testBit]
theorem plO_off1 (s : Sch) (O i : Nat) : (plO s O).off1 i = plO s (O ||| 2 ^ i) := by
  refine sch_ext rfl rfl rfl rfl rfl rfl fun j => ?_
  simp only [plO]
  rw [off1_get, get_pl, offs_get, get_pl, offs_get]
  cases s.rules[j]? with
  | none => rfl
  | some r =>
    simp only [Option.map_some, Nat.testBit_or, Nat.testBit_two_pow]
    by_cases h : i = j
    · subst h; cases O.testBit i <;> simp [Rul.off, Rul.pl]
    · simp [h]
theorem off1_pl {s a : Sch} {O i : Nat} (h : a.pl = plO s O) : (a.off1 i).pl = plO s (O ||| 2 ^ i) := by rw [pl_off1, h, plO_off1]
theorem ansN_plO {s a : Sch} {O : Nat} (h : a.pl = plO s O) (kind : Int) (ch : List Int) : ansN a 0 kind ch = ansN s O kind ch := by
  rw [← ansN_pl, h, plO, ansN_pl, ansN_offs]
theorem schB_plO {s a : Sch} {O : Nat} (h : a.pl = plO s O) (hv : schB s = true) : schB a = true := by
  rw [← schB_pl, h, plO, schB_pl]; exact schB_offs hv
theorem plO_flds {s a : Sch} {O : Nat} (h : a.pl = plO s O) : a.places = s.places ∧ a.signs = s.signs ∧ a.kinds = s.kinds ∧ a.answers = s.answers ∧ a.rules.length = s.rules.length := by
  refine ⟨?_, ?_, ?_, ?_, ?_⟩
  · have := congrArg Sch.places h; exact this
  · have := congrArg Sch.signs h; exact this
  · have := congrArg Sch.kinds h; exact this
  · have := congrArg Sch.answers h; exact this
  · have := congrArg (fun x => x.rules.length) h
    simp only [plO, len_pl, offs_len] at this; exact this
/-- all charts are read alike, for all kinds of the first -/
def alikeB (a b : Sch) : Bool := (List.range (chartsC a)).all fun j => (List.range a.kinds.toNat).all fun k => ansN a 0 (k : Int) (chartL a j) == ansN b 0 (k : Int) (chartL a j)
theorem alikeB_plO {s a b : Sch} {O O' : Nat} (ha : a.pl = plO s O) (hb : b.pl = plO s O') (hs : sameB s O = true) : alikeB a b = sameB s O' := by
  obtain ⟨h1, h2, h3, h4, h5⟩ := plO_flds ha
  have hc : chartsC a = chartsC s := by simp only [chartsC, h1, h2]
  have hl : ∀ j, chartL a j = chartL s j := fun j => by simp only [chartL, h1, h2]
  simp only [alikeB, hc, h3, hl, ansN_plO ha, ansN_plO hb, sameB]
  simp only [sameB, List.all_eq_true, List.mem_range, beq_iff_eq] at hs
  rw [Bool.eq_iff_iff]
  simp only [List.all_eq_true, List.mem_range, beq_iff_eq]
  constructor
  · intro h j hj k hk; rw [← h j hj k hk]; exact hs j hj k hk
  · intro h j hj k hk; rw [h j hj k hk]; exact hs j hj k hk
theorem alikeB_iff {a b : Sch} : alikeB a b = true ↔ ∀ k : Nat, (k : Int) < a.kinds → firstN (fun (j : Nat) => ansN a 0 (k : Int) (chartL a j) != ansN b 0 (k : Int) (chartL a j)) (chartsC a) < 0 := by
  simp only [alikeB, List.all_eq_true, List.mem_range, beq_iff_eq]
  constructor
  · intro h k hk
    refine firstN_iff.1 fun j hj => ?_
    simp only [bne_eq_false_iff_eq]
    exact h j hj k (by omega)
  · intro h j hj k hk
    have := firstN_iff.2 (h k (by omega)) j hj
    simp only [bne_eq_false_iff_eq] at this
    exact this
theorem kinds0_idle {s : Sch} {k : Nat} {r : Rul} (hr : s.rules[k]? = some r) (h0 : r.kinds = 0) : sameB s (2 ^ k) = true := by
  have e : s.offs (2 ^ k) s.ra s.rc = s := by
    refine sch_ext rfl rfl rfl rfl rfl rfl fun j => ?_
    rw [offs_get]
    by_cases h : k = j
    · subst h; rw [hr]; simp only [Option.map_some, Nat.testBit_two_pow, decide_true, Rul.off, if_true]
      rw [← h0]
    · cases s.rules[j]? <;> simp [Nat.testBit_two_pow, h, Rul.off]
  simp only [sameB, List.all_eq_true, beq_iff_eq]
  intro j _ i _
  rw [← ansN_offs (A := s.ra) (c := s.rc), e]
theorem idleL_mem {s : Sch} {n k : Nat} : (k : Int) ∈ idleL s n ↔ k < n ∧ sameB s (2 ^ k) = true := by
  simp only [idleL, List.mem_map, List.mem_filter, List.mem_range]
  constructor
  · rintro ⟨i, h, e⟩; obtain rfl : i = k := by omega
    exact h
  · intro h; exact ⟨k, h, rfl⟩
theorem minL_mem {s : Sch} {R : Nat} {f : Int} (h : f ∈ minL s R) : ∃ i : Nat, f = (i : Int) ∧ i < s.rules.length ∧ R.testBit i = false := by
  obtain ⟨i, hi, rfl⟩ := List.mem_map.1 h
  obtain ⟨h1, h2⟩ := List.mem_filter.1 hi
  exact ⟨i, rfl, List.mem_range.1 h1, by simpa using h2⟩
end Go.Proofs.Ytidlmbajpbbilaa
namespace Go.Proofs.Ytidlmbajpbbilaa
open Go.RowKit

theorem bl2' {w W1 W2 : World} (h1 : Below w.heap.size w W1) (h2 : Below W1.heap.size W1 W2) : Below w.heap.size w W2 := h1.trans (h2.mono h1.size)
theorem differ_cong' {a a' b b' : Sch} (h : a'.pl = a.pl) (h' : b'.pl = b.pl) (kind : Int) : differR a' b' kind = differR a b kind := by rw [← differR_pl a' b', h, h', differR_pl]
def alF (a b : Sch) (k : Nat) : Int := firstN (fun (j : Nat) => ansN a 0 (k : Int) (chartL a j) != ansN b 0 (k : Int) (chartL a j)) (chartsC a)
theorem differ_al {a b : Sch} (va : schB a = true) (vb : schB b = true) (hp : b.places = a.places) (hs : b.signs = a.signs) (hk : b.kinds = a.kinds) {k : Nat} (h : (k : Int) < a.kinds) : differR a b (k : Int) = (alF a b k, 0) := by
  have h0 : (0 : Int) ≤ (k : Int) := by omega
  have e1 : inB (k : Int) 0 (a.kinds - 1) = true := inB_iff.2 ⟨h0, by omega⟩
  have e2 : inB (k : Int) 0 (b.kinds - 1) = true := inB_iff.2 ⟨h0, by omega⟩
  simp [differR, va, vb, hp, hs, e1, e2, alF]
set_option maxRecDepth 100000 in
set_option maxHeartbeats 4000000 in
theorem alike_any (a b : Sch) (w : World) (ha : a.reads w w.heap.size) (hb : b.reads w w.heap.size) (ha0 : a.nil0) (hb0 : b.nil0) (va : schB a = true) (vb : schB b = true) (hp : b.places = a.places) (hs : b.signs = a.signs) (hk : b.kinds = a.kinds) :
    Calls Try.prog 49 #[scv a a.rv, scv b b.rv] w fun e w' => e = .returned (.bool (alikeB a b)) ∧ Below w.heap.size w w' := by
  have Va := valid_of ha.oks va
  have hla := Va.len
  have hlb := (valid_of hb.oks vb).len
  have hkk := Va.kinds
  have HRA := Lib.hid ha; have HRB := Lib.hid hb; have HA0 := Lib.hid ha0; have HB0 := Lib.hid hb0
  have HDF := Lib.hid (fun (k : Nat) (h : (k : Int) < a.kinds) => differ_al va vb hp hs hk h)
  clear ha hb ha0 hb0 va vb hp hs hk Va
  go_enter Try.func49, Try.ntmps49
  go_wp2
  refine wp_world (fun W => Below w.heap.size w W ∧ w.heap.size + 1 < W.heap.size ∧ Blk W w.heap.size #[.int .i64 a.places, .int .i64 a.signs, .int .i64 a.kinds, .int .i64 a.answers, a.rv] 24 ∧ Blk W (w.heap.size + 1) #[.int .i64 b.places, .int .i64 b.signs, .int .i64 b.kinds, .int .i64 b.answers, b.rv] 24) ⟨by (repeat (first | exact Below.refl _ _ | assumption | (refine Below.alloc ?_ (by first | omega | (simp; omega) | (simp; done)) _) | (refine Below.setCell ?_ (by first | omega | (simp; omega) | (simp; done)) _) | (refine Below.drew ?_) | (refine belowN ?_ _) | (refine Below.trans ?_ (Below.mono ‹Below _ _ _› (by first | omega | (simp; omega) | (simp; done)))))), by simp, (Blk.at_ rfl).alloc _, Blk.at_ (by simp)⟩ ?_
  rintro w0 ⟨hb0, hz0, ga, gb⟩
  go_loopw [5] (fun i wr => ∃ k : Nat, (k : Int) ≤ a.kinds ∧ i = .int .i64 k ∧ Below w0.heap.size w0 wr ∧ Hid (∀ j, j < k → alF a b j < 0)) (fun i _ => (a.kinds - intOf i).toNat)
  case atStart => exact ⟨0, by omega, rfl, Below.refl _ _, fun j hj => by omega⟩
  case round =>
    obtain ⟨k, hk, rfl, hb, HN⟩ := hrel
    have hsz := hb.size
    have hbr : Below w.heap.size w wr := hb0.trans (hb.mono (by omega))
    have g1r := ga.below hb (by omega)
    have g2r := gb.below hb (by omega)
    have g1 := g1r; have g2 := g2r
    (have s0 := g1.cell 0; have s1 := g1.cell 1; have s2 := g1.cell 2; have s3 := g1.cell 3; have s4 := g1.cell 4; have t0 := g2.cell 0; have t1 := g2.cell 1; have t2 := g2.cell 2; have t3 := g2.cell 3; have t4 := g2.cell 4; simp at s0 s1 s2 s3 s4 t0 t1 t2 t3 t4)
    by_cases hlt : (k : Int) < a.kinds
    · have HD0 := HDF.out k hlt
      obtain ⟨F, hF⟩ : ∃ F, F = alF a b k := ⟨_, rfl⟩
      rw [← hF] at HD0
      have HD := Lib.hid HD0
      have HF := Lib.hid hF
      clear hF HD0
      by_cases h0 : F = -1
      · subst h0
        go_wp2
        go_region_held (fun W' => W'.cell? ⟨w.heap.size, 0, none⟩ = some (.int .i64 a.places) ∧ W'.cell? ⟨w.heap.size, 1, none⟩ = some (.int .i64 a.signs) ∧ W'.cell? ⟨w.heap.size, 2, none⟩ = some (.int .i64 a.kinds) ∧ W'.cell? ⟨w.heap.size, 3, none⟩ = some (.int .i64 a.answers) ∧ W'.cell? ⟨w.heap.size, 4, none⟩ = some a.rv ∧ W'.cell? ⟨w.heap.size + 1, 0, none⟩ = some (.int .i64 b.places) ∧ W'.cell? ⟨w.heap.size + 1, 1, none⟩ = some (.int .i64 b.signs) ∧ W'.cell? ⟨w.heap.size + 1, 2, none⟩ = some (.int .i64 b.kinds) ∧ W'.cell? ⟨w.heap.size + 1, 3, none⟩ = some (.int .i64 b.answers) ∧ W'.cell? ⟨w.heap.size + 1, 4, none⟩ = some b.rv) (exact ⟨s0, s1, s2, s3, s4, t0, t1, t2, t3, t4⟩)
          (first | (have _ := hw3; go_at_call 17; refine (own_any b _ ((HRB.out.below hw3).more hw3.size) HB0.out (by omega)).mono ?_; rintro _ W4 ⟨b', rfl, hpl, hr', -, hby⟩; have HPB := Lib.hid hpl; have HB' := Lib.hid hr'; clear hpl hr'; have hw4 := bl2' hw3 hby; have hx4 := bl2' hx3 hby; have g1 := g1.below hby g1.lt; have g2 := g2.below hby g2.lt; (have s0 := g1.cell 0; have s1 := g1.cell 1; have s2 := g1.cell 2; have s3 := g1.cell 3; have s4 := g1.cell 4; have t0 := g2.cell 0; have t1 := g2.cell 1; have t2 := g2.cell 2; have t3 := g2.cell 3; have t4 := g2.cell 4; simp at s0 s1 s2 s3 s4 t0 t1 t2 t3 t4)) |
           (go_at_call 17; refine (own_any a _ ((HRA.out.below (Below.drew hbr)).more (Below.drew hbr).size) HA0.out (by omega)).mono ?_; rintro _ W3 ⟨a', rfl, hpl, hr', -, hbx⟩; have HPA := Lib.hid hpl; have HA' := Lib.hid hr'; clear hpl hr'; have hw3 := bl2' (Below.drew hbr) hbx; have hx3 : Below wr.heap.size wr W3 := bl2' (Below.drew (Below.refl _ _)) hbx; have g1 := g1r.below hx3 g1r.lt; have g2 := g2r.below hx3 g2r.lt; clear hbx; (have s0 := g1.cell 0; have s1 := g1.cell 1; have s2 := g1.cell 2; have s3 := g1.cell 3; have s4 := g1.cell 4; have t0 := g2.cell 0; have t1 := g2.cell 1; have t2 := g2.cell 2; have t3 := g2.cell 3; have t4 := g2.cell 4; simp at s0 s1 s2 s3 s4 t0 t1 t2 t3 t4)) |
           (go_at_call 34; refine (differ_any a' b' (k : Int) _ ((HA'.out.below hby).more hby.size) HB'.out).mono ?_; rw [differ_cong' HPA.out HPB.out, HD.out]; rintro _ W5 ⟨rfl, hbx⟩; have hw5 := bl2' hw4 hbx; have hx5 := bl2' hx4 hbx; have g1 := g1.below hbx g1.lt; have g2 := g2.below hbx g2.lt; clear hbx; (have s0 := g1.cell 0; have s1 := g1.cell 1; have s2 := g1.cell 2; have s3 := g1.cell 3; have s4 := g1.cell 4; have t0 := g2.cell 0; have t1 := g2.cell 1; have t2 := g2.cell 2; have t3 := g2.cell 3; have t4 := g2.cell 4; simp at s0 s1 s2 s3 s4 t0 t1 t2 t3 t4)))
        all_goals (
          go_wp2
          go_roundw
          case rel => exact ⟨k + 1, by omega, by go_num, hb.trans (hx5.mono hsz), upto_succ HN (by rw [← HF.out]; omega)⟩
          case measure => simp [intOf] <;> omega)
      · have n1 : (F != -1) = true := by simpa using h0
        have hno : Hid (alikeB a b = false) := (by
          rw [Bool.eq_false_iff]; intro h
          have h1 : alF a b k < 0 := alikeB_iff.1 h k hlt
          have h2 : alF a b k = -1 := firstN_none (firstN_iff.2 h1)
          exact h0 (HF.out.trans h2) : alikeB a b = false)
        clear h0
        go_wp2
        go_region_held (fun W' => W'.cell? ⟨w.heap.size, 0, none⟩ = some (.int .i64 a.places) ∧ W'.cell? ⟨w.heap.size, 1, none⟩ = some (.int .i64 a.signs) ∧ W'.cell? ⟨w.heap.size, 2, none⟩ = some (.int .i64 a.kinds) ∧ W'.cell? ⟨w.heap.size, 3, none⟩ = some (.int .i64 a.answers) ∧ W'.cell? ⟨w.heap.size, 4, none⟩ = some a.rv ∧ W'.cell? ⟨w.heap.size + 1, 0, none⟩ = some (.int .i64 b.places) ∧ W'.cell? ⟨w.heap.size + 1, 1, none⟩ = some (.int .i64 b.signs) ∧ W'.cell? ⟨w.heap.size + 1, 2, none⟩ = some (.int .i64 b.kinds) ∧ W'.cell? ⟨w.heap.size + 1, 3, none⟩ = some (.int .i64 b.answers) ∧ W'.cell? ⟨w.heap.size + 1, 4, none⟩ = some b.rv) (exact ⟨s0, s1, s2, s3, s4, t0, t1, t2, t3, t4⟩)
          (first | (have _ := hw3; go_at_call 17; refine (own_any b _ ((HRB.out.below hw3).more hw3.size) HB0.out (by omega)).mono ?_; rintro _ W4 ⟨b', rfl, hpl, hr', -, hby⟩; have HPB := Lib.hid hpl; have HB' := Lib.hid hr'; clear hpl hr'; have hw4 := bl2' hw3 hby; have hx4 := bl2' hx3 hby; have g1 := g1.below hby g1.lt; have g2 := g2.below hby g2.lt; (have s0 := g1.cell 0; have s1 := g1.cell 1; have s2 := g1.cell 2; have s3 := g1.cell 3; have s4 := g1.cell 4; have t0 := g2.cell 0; have t1 := g2.cell 1; have t2 := g2.cell 2; have t3 := g2.cell 3; have t4 := g2.cell 4; simp at s0 s1 s2 s3 s4 t0 t1 t2 t3 t4)) |
           (go_at_call 17; refine (own_any a _ ((HRA.out.below (Below.drew hbr)).more (Below.drew hbr).size) HA0.out (by omega)).mono ?_; rintro _ W3 ⟨a', rfl, hpl, hr', -, hbx⟩; have HPA := Lib.hid hpl; have HA' := Lib.hid hr'; clear hpl hr'; have hw3 := bl2' (Below.drew hbr) hbx; have hx3 : Below wr.heap.size wr W3 := bl2' (Below.drew (Below.refl _ _)) hbx; have g1 := g1r.below hx3 g1r.lt; have g2 := g2r.below hx3 g2r.lt; clear hbx; (have s0 := g1.cell 0; have s1 := g1.cell 1; have s2 := g1.cell 2; have s3 := g1.cell 3; have s4 := g1.cell 4; have t0 := g2.cell 0; have t1 := g2.cell 1; have t2 := g2.cell 2; have t3 := g2.cell 3; have t4 := g2.cell 4; simp at s0 s1 s2 s3 s4 t0 t1 t2 t3 t4)) |
           (go_at_call 34; refine (differ_any a' b' (k : Int) _ ((HA'.out.below hby).more hby.size) HB'.out).mono ?_; rw [differ_cong' HPA.out HPB.out, HD.out]; rintro _ W5 ⟨rfl, hbx⟩; have hw5 := bl2' hw4 hbx; have hx5 := bl2' hx4 hbx; have g1 := g1.below hbx g1.lt; have g2 := g2.below hbx g2.lt; clear hbx; (have s0 := g1.cell 0; have s1 := g1.cell 1; have s2 := g1.cell 2; have s3 := g1.cell 3; have s4 := g1.cell 4; have t0 := g2.cell 0; have t1 := g2.cell 1; have t2 := g2.cell 2; have t3 := g2.cell 3; have t4 := g2.cell 4; simp at s0 s1 s2 s3 s4 t0 t1 t2 t3 t4)))
        all_goals (
          go_wp2
          go_ret
          exact ⟨ret_bool hno.out.symm, hw5⟩)
    · have hyes : Hid (alikeB a b = true) := (alikeB_iff.2 fun j hj => HN.out j (by omega) : alikeB a b = true)
      go_wp2
      go_ret
      exact ⟨ret_bool hyes.out.symm, hbr⟩
end Go.Proofs.Ytidlmbajpbbilaa
namespace Go.Proofs.Ytidlmbajpbbilaa
open Go.RowKit

theorem bools_put {O n i : Nat} {b : Bool} : (((bitsB O n).map Value.bool).toArray.setIfInBounds i (.bool b)) = (((bitsB O n).set i b).map Value.bool).toArray := by
  rw [List.setIfInBounds_toArray, ← List.map_set]
def kmask (l : List Int) : Nat := l.foldl (fun (K : Nat) (f : Int) => K ||| 2 ^ f.toNat) 0
theorem kmask_succ {l : List Int} {i : Nat} (h : i < l.length) : kmask (l.take (i + 1)) = kmask (l.take i) ||| 2 ^ (l[i]).toNat := by
  simp only [kmask]; rw [List.take_succ_eq_append_getElem h, List.foldl_append]; rfl
theorem kmask_bit (l : List Int) (j : Nat) : ∀ K, (l.foldl (fun (K : Nat) (f : Int) => K ||| 2 ^ f.toNat) K).testBit j = (K.testBit j || l.any fun f => f.toNat == j) := by
  induction l with
  | nil => intro K; simp
  | cons f l ih =>
    intro K
    simp only [List.foldl_cons, List.any_cons]
    rw [ih, Nat.testBit_or, Nat.testBit_two_pow, Bool.or_assoc]
    congr 2
    try (rw [Bool.eq_iff_iff]; simp)
theorem kmask_min {s : Sch} {R j : Nat} (hj : j < s.rules.length) : (kmask (minL s R)).testBit j = !R.testBit j := by
  unfold kmask
  rw [kmask_bit, Nat.zero_testBit, Bool.false_or, Bool.eq_iff_iff]
  simp only [List.any_eq_true, beq_iff_eq, Bool.not_eq_true', minL, List.mem_map, List.mem_filter, List.mem_range]
  constructor
  · rintro ⟨f, ⟨i, ⟨h1, h2⟩, rfl⟩, h3⟩
    obtain rfl : i = j := by simpa using h3
    exact h2
  · intro h; exact ⟨(j : Int), ⟨j, ⟨hj, h⟩, rfl⟩, by simp⟩
theorem mod_step {R i : Nat} : R % 2 ^ (i + 1) = if R.testBit i then (R % 2 ^ i) ||| 2 ^ i else R % 2 ^ i := by
  refine Nat.eq_of_testBit_eq fun j => ?_
  cases hb : R.testBit i with
  | true =>
    simp only [if_true, Nat.testBit_or, Nat.testBit_mod_two_pow, Nat.testBit_two_pow]
    by_cases h : j = i
    · subst h; simp [hb]
    · by_cases h1 : j < i
      · have : j < i + 1 := by omega
        have h3 : ¬ i = j := by omega
        simp [h1, this, h3]
      · have : ¬ j < i + 1 := by omega
        have h3 : ¬ i = j := by omega
        simp [h1, this, h3]
  | false =>
    simp only [Bool.false_eq_true, if_false, Nat.testBit_mod_two_pow]
    by_cases h : j = i
    · subst h; simp [hb]
    · by_cases h1 : j < i
      · have : j < i + 1 := by omega
        simp [h1, this]
      · have : ¬ j < i + 1 := by omega
        simp [h1, this]
/-- a school made by own, some of whose rules have lost their kinds: O which; the address and the capacity are known -/
structure Turn (s : Sch) (A : Option Addr) (c : Nat) (b O : Nat) (W : World) (q : Sch) : Prop where
  a : q.ra = A
  cc : q.rc = c
  pl : q.pl = plO s O
  m : MSch b W q
theorem Turn.below {s q : Sch} {A : Option Addr} {c b O : Nat} {W W' : World} (h : Turn s A c b O W q) (hb : Below W.heap.size W W') : Turn s A c b O W' q := ⟨h.a, h.cc, h.pl, h.m.below hb⟩
theorem Turn.len {s q : Sch} {A : Option Addr} {c b O : Nat} {W : World} (h : Turn s A c b O W q) : q.rules.length = s.rules.length := (plO_flds h.pl).2.2.2.2
theorem Turn.nil {s q : Sch} {A : Option Addr} {c b O : Nat} {W : World} (h : Turn s A c b O W q) : q.nil0 := by
  refine ⟨fun e => ?_, fun r hr => (h.m.rows r hr).nil⟩
  rcases h.m.row.2 with ⟨hv, _⟩ | ⟨g, cap, cur, hv, _⟩
  · injection hv
  · rw [e] at hv; cases hv
theorem Turn.put {s q : Sch} {A : Option Addr} {c b O : Nat} {W : World} (h : Turn s A c b O W q) {i : Nat} (hi : i < s.rules.length) :
    ∃ g, A = some ⟨g, 0, none⟩ ∧ b ≤ g ∧ (∃ cs, Blk W g cs 82) ∧ W.frozen? ⟨g, i * 5 + 1, none⟩ = false ∧ (∃ v, W.cell? ⟨g, i * 5 + 1, none⟩ = some v) ∧ Turn s A c b (O ||| 2 ^ i) (W.setCell ⟨g, i * 5 + 1, none⟩ (.int .i64 0)) (q.off1 i) := by
  obtain ⟨g, h1, h2, h3, h4, h5, h6⟩ := h.m.put (i := i) (by rw [h.len]; exact hi)
  exact ⟨g, by rw [← h.a, h1], h2, h3, h4, h5, h.a, h.cc, off1_pl h.pl, h6⟩
theorem turn_of {s q : Sch} {b : Nat} {W : World} (h : q.pl = s.pl) (hm : MSch b W q) : Turn s q.ra q.rc b 0 W q := ⟨rfl, rfl, by rw [plO_zero, h], hm⟩
theorem turn_of' {s q q' : Sch} {A : Option Addr} {c b b' O : Nat} {W W' : World} (h : q'.pl = q.pl) (hq : Turn s A c b O W q) (hm : MSch b' W' q') : Turn s q'.ra q'.rc b' O W' q' := ⟨rfl, rfl, by rw [h, hq.pl], hm⟩
theorem Turn.scv {s q : Sch} {A : Option Addr} {c b O : Nat} {W : World} (h : Turn s A c b O W q) : Go.Proofs.Ytidlmbajpbbilaa.scv q q.rv = .agg #[.int .i64 s.places, .int .i64 s.signs, .int .i64 s.kinds, .int .i64 s.answers, .slice A s.rules.length c] := by
  obtain ⟨h1, h2, h3, h4, h5⟩ := plO_flds h.pl
  have e : q.rv = .slice A s.rules.length c := by show Value.slice q.ra q.rules.length q.rc = _; rw [h.a, h.cc, h5]
  show Value.agg #[.int .i64 q.places, .int .i64 q.signs, .int .i64 q.kinds, .int .i64 q.answers, q.rv] = _
  rw [h1, h2, h3, h4, e]
/-- alike, by what is out -/
theorem al_turn {s a b : Sch} {A B : Option Addr} {ca cb ba bb O O' : Nat} {W W' W2 : World} (hv : schB s = true) (ha : Turn s A ca ba O W a) (hb : Turn s B cb bb O' W' b) (h1 : Below W.heap.size W W2) (h2 : Below W'.heap.size W' W2) (hs : sameB s O = true) :
    Calls Try.prog 49 #[.agg #[.int .i64 s.places, .int .i64 s.signs, .int .i64 s.kinds, .int .i64 s.answers, .slice A s.rules.length ca], .agg #[.int .i64 s.places, .int .i64 s.signs, .int .i64 s.kinds, .int .i64 s.answers, .slice B s.rules.length cb]] W2 fun e w' => e = .returned (.bool (sameB s O')) ∧ Below W2.heap.size W2 w' := by
  obtain ⟨e1, e2, e3, _, _⟩ := plO_flds ha.pl
  obtain ⟨f1, f2, f3, _, _⟩ := plO_flds hb.pl
  have h := alike_any a b W2 (ha.below h1).m.reads (hb.below h2).m.reads (ha.below h1).nil (hb.below h2).nil (schB_plO ha.pl hv) (schB_plO hb.pl hv) (by rw [e1, f1]) (by rw [e2, f2]) (by rw [e3, f3])
  rw [ha.scv, hb.scv, alikeB_plO ha.pl hb.pl hs] at h
  exact h
theorem al_self {s b : Sch} {B : Option Addr} {cb bb O' : Nat} {W' W2 : World} (hv : schB s = true) (hr : s.reads W2 W2.heap.size) (h0 : s.nil0) (hb : Turn s B cb bb O' W' b) (h2 : Below W'.heap.size W' W2) :
    Calls Try.prog 49 #[Go.Proofs.Ytidlmbajpbbilaa.scv s s.rv, .agg #[.int .i64 s.places, .int .i64 s.signs, .int .i64 s.kinds, .int .i64 s.answers, .slice B s.rules.length cb]] W2 fun e w' => e = .returned (.bool (sameB s O')) ∧ Below W2.heap.size W2 w' := by
  obtain ⟨f1, f2, f3, _, _⟩ := plO_flds hb.pl
  have h := alike_any s b W2 hr (hb.below h2).m.reads h0 (hb.below h2).nil hv (schB_plO hb.pl hv) (by rw [f1]) (by rw [f2]) (by rw [f3])
  rw [hb.scv, alikeB_plO (plO_zero s).symm hb.pl (sameB_zero s)] at h
  exact h
theorem any_take {q : Int → Bool} {l : List Int} {j : Nat} (h : j < l.length) : (l.take (j + 1)).any q = ((l.take j).any q || q l[j]) := by
  rw [List.take_succ_eq_append_getElem h, List.any_append]; simp
end Go.Proofs.Ytidlmbajpbbilaa

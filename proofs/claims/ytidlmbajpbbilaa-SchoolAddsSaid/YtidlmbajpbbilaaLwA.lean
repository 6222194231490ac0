/- The law SchoolReads: the walk. -/
import Derived.Test.YtidlmbajpbbilaaHlG
namespace Go.Proofs.Ytidlmbajpbbilaa
open Go.RowKit

theorem Rul.wreads.below {w w' : World} {B : Nat} {r : Rul} (h : r.wreads w B) (hb : Below B w w') : r.wreads w' B := ⟨h.1.below hb, h.2.1.below hb, h.2.2⟩
theorem Rul.wreads.more {w : World} {B B' : Nat} {r : Rul} (h : r.wreads w B) (hb : B ≤ B') : r.wreads w B' := ⟨h.1.more hb, h.2.1.more hb, h.2.2⟩
theorem Sch.wreads.below {w w' : World} {B : Nat} {s : Sch} (h : s.wreads w B) (hb : Below B w w') : s.wreads w' B := ⟨h.1.below hb, fun r hr => (h.2 r hr).below hb⟩
theorem Sch.wreads.more {w : World} {B B' : Nat} {s : Sch} (h : s.wreads w B) (hb : B ≤ B') : s.wreads w B' := ⟨h.1.more hb, fun r hr => (h.2 r hr).more hb⟩
theorem not_large {s : Sch} {N : Int} (h : largeB s N = false) : s.rules.length ≤ 35 ∧ s.rules.all rsB = true ∧ (schB s = true → chartsN s.signs s.places.toNat ≤ N) := by
  simp only [largeB, Bool.not_eq_false', Bool.and_eq_true, decide_eq_true_eq, Bool.not_eq_true', Bool.and_eq_false_iff, decide_eq_false_iff_not] at h
  refine ⟨h.1.1, h.1.2, fun hv => ?_⟩
  rcases h.2 with h2 | h2
  · rw [hv] at h2; cases h2
  · omega
/-- own, with what is wanted of the copy -/
def RetOwnA (s : Sch) (w : World) (e : Ending) (w' : World) : Prop := ∃ s' : Sch, e = .returned (scv s' s'.rv) ∧ s'.reads w' w'.heap.size ∧ Below w.heap.size w w' ∧ schB s' = schB s ∧ (∀ n, chartR s' n = chartR s n) ∧ (∀ l, numberR s' l = numberR s l) ∧ (∀ ch k, readR s' ch k = readR s ch k)
theorem owna_any (s : Sch) (w : World) (hr : s.reads w w.heap.size) (h0 : s.nil0) (hl : s.rules.length ≤ 35) : Calls Try.prog 17 #[scv s s.rv] w (RetOwnA s w) :=
  (own_any s w hr h0 (by omega)).mono fun e w' ⟨s', h1, h2, h3, h4, h5⟩ =>
    ⟨s', h1, h3, h5, by rw [← schB_pl s', h2, schB_pl], fun n => by rw [← chartR_pl s', h2, chartR_pl], fun l => by rw [← numberR_pl s', h2, numberR_pl], fun ch k => by rw [← readR_pl s', h2, readR_pl]⟩

def errB (v : Bool) : Int := if v then 0 else 2
theorem chke_any {s : Sch} {v : Bool} (h : schB s = v) (w : World) (hr : s.reads w w.heap.size) : Calls Try.prog 36 #[scv s s.rv] w fun e w' => e = .returned (.int .i64 (errB v)) ∧ Below w.heap.size w w' := chk_any h w hr
theorem sl_al {α : Type} {f : α → List Value} {size : Nat} {w W : World} {A : Option Addr} {l : List α} {o : Obj} (h : Sl f size w w.heap.size A l) (hb : Below w.heap.size w W) : Sl f size (W.alloc o) (W.alloc o).heap.size A l := (h.below (bla hb)).more (bla hb).size
theorem v3_of {s : Sch} (ho : ∀ r ∈ s.rules, ∀ t ∈ r.when_, t.ok) (h : schB s = true) : ∀ r ∈ s.rules, ∀ t ∈ r.when_, TestFit3 s.places.toNat t := fun r hr t ht => by
  have hp : 1 ≤ s.places := (small_of_sch h).1
  have h1 : rulesB s 0 s.rules = true := by simp only [schB, Bool.and_eq_true] at h; exact h.2
  obtain ⟨i, hi, rfl⟩ := List.mem_iff_getElem.1 hr
  have h2 := rulesB_get h1 i hi
  simp only [ruleB, testsB, Bool.and_eq_true, List.all_eq_true] at h2
  exact tstB_fit3 (ho _ hr t ht) hp (h2.1.1.1.1.2.2 t ht)
theorem chart_facts {s : Sch} (hs : Small s) {ch : List Int} (h : chartB s ch = true) : ch.length = s.places.toNat ∧ ∀ x ∈ ch, 0 ≤ x ∧ x ≤ 63 := by
  simp only [chartB, Bool.and_eq_true, decide_eq_true_eq, List.all_eq_true, inB_iff] at h
  obtain ⟨h1, h2⟩ := h
  have := hs.2.2.2
  exact ⟨by omega, fun x hx => by have := h2 x hx; omega⟩
theorem read_readP {s : Sch} {ch : List Int} {kind rk re : Int} {RQ RM : List Int} (hv : schB s = true) (hcb : chartB s ch = true) (hkb : inB kind 0 (s.kinds - 1) = true) (h : readR s ch kind = (rk, RQ, RM, re)) : readP s kind ch = (rk, RQ, RM) ∧ re = 0 := by
  simp only [readR, hv, hcb, hkb, if_true, Prod.mk.injEq] at h
  obtain ⟨h1, h2, h3, h4⟩ := h
  exact ⟨by simp only [readP, h1, h2, h3], h4.symm⟩
theorem bitsOf_len (n : Nat) : (bitsOf n).length ≤ 1000000 := by
  have := upBits_len n 31; simp only [bitsOf]; omega
theorem SQ_len {s : Sch} {ch : List Int} {kind rk : Int} {RQ RM : List Int} (h : readP s kind ch = (rk, RQ, RM)) : RQ.length ≤ 1000000 := by
  simp only [readP, Prod.mk.injEq] at h
  rw [← h.2.1]; exact bitsOf_len _
theorem SM_len {s : Sch} {ch : List Int} {kind rk : Int} {RQ RM : List Int} (h : readP s kind ch = (rk, RQ, RM)) : RM.length ≤ 1000000 := by
  simp only [readP, Prod.mk.injEq] at h
  rw [← h.2.2]; exact bitsOf_len _
set_option maxRecDepth 100000 in
set_option maxHeartbeats 8000000 in
theorem lwreads_no (s : Sch) (A : Option Addr) (c : Nat) (ch : List Int) (n kind : Int) (w : World) (HRR : Hid (s.wreads w w.heap.size)) (HN0 : Hid s.nil0) (HAA : Hid (Sl intCell 1 w w.heap.size A ch)) (hn : A = none → c = 0)
    (hg : largeB s 4096 = false) (hc10 : ch.length ≤ 10) (hv : schB s = false) :
    Calls Try.prog 10 #[scv s s.rv, .slice A ch.length c, .agg #[.int .i64 n, .int .i64 kind]] w fun e w' => e = .returned (.bool true) ∧ Below w.heap.size w w' := by
  obtain ⟨hlen, hall, -⟩ := not_large hg
  have d1 : decide (10 < (ch.length : Int)) = false := by simp; omega
  have d1' : decide (10 < ch.length) = false := by simp; omega
  have hrd := reads_of_weak HRR.out hlen hall
  obtain ⟨E0, hE0⟩ : ∃ x, errB (schB s) = x := ⟨_, rfl⟩
  obtain ⟨L, er, hLE⟩ : ∃ x y, chartR s n = (x, y) := ⟨_, _, rfl⟩
  obtain ⟨nm, ne, hNE⟩ : ∃ x y, numberR s ch = (x, y) := ⟨_, _, rfl⟩
  obtain ⟨rk, RQ, RM, re, hRE⟩ : ∃ x y z u, readR s ch kind = (x, y, z, u) := ⟨_, _, _, _, rfl⟩
  have HE0 := Lib.hid hE0; have HLE := Lib.hid hLE; have HNE := Lib.hid hNE; have HRE := Lib.hid hRE
  clear hE0 hLE hNE hRE
  have HR := Lib.hid hrd
  clear hrd hall
  go_enter Try.func10, Try.ntmps10
  go_wp2_with (first | (go_at_call 14; refine (large_any s 4096 _ ((HRR.out.below (by (repeat (first | exact Below.refl _ _ | assumption | (refine Below.alloc ?_ (by first | omega | (simp; omega) | (simp; done)) _) | (refine Below.setCell ?_ (by first | omega | (simp; omega) | (simp; done)) _) | (refine Below.drew ?_) | (refine belowN ?_ _) | (refine Below.trans ?_ (Below.mono ‹Below _ _ _› (by first | omega | (simp; omega) | (simp; done)))))))).more (by simp; omega))).mono ?_; rintro _ W1 ⟨rfl, hb1⟩; have hw1 : Below w.heap.size w W1 := bl2 (bla (bla (Below.refl _ _))) hb1; have g1 : Blk W1 w.heap.size #[.int .i64 s.places, .int .i64 s.signs, .int .i64 s.kinds, .int .i64 s.answers, s.rv] 24 := ((Blk.at_ rfl).alloc _).below hb1 (by first | omega | (simp; omega) | (simp; done)); have g2 : Blk W1 (w.heap.size + 1) #[.int .i64 n, .int .i64 kind] 87 := (Blk.at_ (by simp)).below hb1 (by first | omega | (simp; omega) | (simp; done)); rw [hg]; have gc := g1.cell; have s0 := gc 0; have s1 := gc 1; have s2 := gc 2; have s3 := gc 3; have s4 := gc 4; have k0 := g2.cell 0; have k1 := g2.cell 1; simp at s0 s1 s2 s3 s4 k0 k1; clear gc))
  go_region
  refine gen_w (fun W => Below w.heap.size w W ∧ Blk W w.heap.size #[.int .i64 s.places, .int .i64 s.signs, .int .i64 s.kinds, .int .i64 s.answers, s.rv] 24) ⟨Below.drew hw1, g1⟩ ?_
  clear hb1 d1 d1' s0 s1 s2 s3 s4 k0 k1 g1 g2 hw1
  clear W1
  rintro W1 ⟨hw1, g1⟩
  go_wp2_with (go_at_call 38; refine (lints_any A c ch _ (by omega) hn (oneCell_ints _) ((HAA.out.below hw1).more hw1.size)).mono ?_; rintro _ W2 ⟨v, rfl, hown, hb2⟩; refine Hid.out ?_)
  have hw2 : Below w.heap.size w W2 := bl2 hw1 hb2
  obtain ⟨A', c', rfl, hA'⟩ := Sl.of_own hown
  have g1 := g1.below hb2 g1.lt
  have s0 := g1.cell 0; have s1 := g1.cell 1; have s2 := g1.cell 2; have s3 := g1.cell 3; have s4 := g1.cell 4
  simp at s0 s1 s2 s3 s4
  have HA' := Lib.hid hA'
  clear hown hA' hb2 hw1
  refine Lib.hid ?_
  go_wp2_with (first | (go_at_call 17; refine (owna_any s _ ((HR.out.below hw2).more hw2.size) HN0.out hlen).mono ?_; rintro _ W3 ⟨s', rfl, hr', hbo, hv', hc1', hn1', hr1'⟩; have HRR' := Lib.hid hr'; clear hr') | (go_at_call 36; refine (chke_any hv' _ HRR'.out).mono ?_; rw [HE0.out]; rintro _ W4 ⟨rfl, hb4⟩; refine Hid.out ?_))
  have hx4 : Below W2.heap.size W2 W4 := bl2 hbo hb4
  have hw4 := bl2 hw2 hx4
  have ha4 := Lib.hid ((HA'.out.below hx4).more hx4.size)
  have g1 := g1.below hx4 g1.lt
  have s0 := g1.cell 0; have s1 := g1.cell 1; have s2 := g1.cell 2; have s3 := g1.cell 3; have s4 := g1.cell 4
  simp at s0 s1 s2 s3 s4
  clear hbo hb4 HRR' hc1' hn1' hr1' hx4 HA' hv'
  refine Lib.hid ?_
  go_wp2_with (first | (go_at_call 17; refine (owna_any s _ ((HR.out.below hw4).more hw4.size) HN0.out hlen).mono ?_; rintro _ W5 ⟨s', rfl, hr', hbo, hv', hc1', hn1', hr1'⟩; have HRR' := Lib.hid hr'; clear hr') | (go_at_call 32; refine (chartF_any s' n _ HRR'.out).mono ?_; rw [hc1', HLE.out]; rintro _ W6 ⟨LA, lc, rfl, hL, hb6⟩; refine Hid.out ?_))
  have hx6 : Below W4.heap.size W4 W6 := bl2 hbo hb6
  have hw6 := bl2 hw4 hx6
  have ha6 := Lib.hid ((ha4.out.below hx6).more hx6.size)
  have HL := Lib.hid hL
  have g1 := g1.below hx6 g1.lt
  have s0 := g1.cell 0; have s1 := g1.cell 1; have s2 := g1.cell 2; have s3 := g1.cell 3; have s4 := g1.cell 4
  simp at s0 s1 s2 s3 s4
  clear hbo hb6 HRR' hc1' hn1' hr1' hx6 ha4 hL hw4 hv'
  refine Lib.hid ?_
  go_wp2_with (first | (go_at_call 17; refine (owna_any s _ ((HR.out.below hw6).more hw6.size) HN0.out hlen).mono ?_; rintro _ W7 ⟨s', rfl, hr', hbo, hv', hc1', hn1', hr1'⟩; have HRR' := Lib.hid hr'; clear hr') | (go_at_call 39; refine (number_any s' ch A' c' _ HRR'.out (by omega) ((ha6.out.below hbo).more hbo.size)).mono ?_; rw [hn1', HNE.out]; rintro _ W8 ⟨rfl, hb8⟩; refine Hid.out ?_))
  have hx8 : Below W6.heap.size W6 W8 := bl2 hbo hb8
  have hw8 := bl2 hw6 hx8
  have ha8 := Lib.hid ((ha6.out.below hx8).more hx8.size)
  have HL8 := Lib.hid ((HL.out.below hx8).more hx8.size)
  have g1 := g1.below hx8 g1.lt
  have s0 := g1.cell 0; have s1 := g1.cell 1; have s2 := g1.cell 2; have s3 := g1.cell 3; have s4 := g1.cell 4
  simp at s0 s1 s2 s3 s4
  clear hbo hb8 HRR' hc1' hn1' hr1' hx8 ha6 HL hw6 hv'
  refine Lib.hid ?_
  go_wp2_with (first | (go_at_call 17; refine (owna_any s _ ((HR.out.below hw8).more hw8.size) HN0.out hlen).mono ?_; rintro _ W9 ⟨s', rfl, hr', hbo, hv', hc1', hn1', hr1'⟩; have HRR' := Lib.hid hr'; clear hr') | (go_at_call 33; refine (read_any s' ch kind A' c' _ HRR'.out (by omega) ((ha8.out.below hbo).more hbo.size)).mono ?_; rw [hr1', HRE.out]; rintro _ W10 ⟨QA, qc, MA, mc, rfl, hQ, hM, hb10⟩; refine Hid.out ?_))
  have hx10 : Below W8.heap.size W8 W10 := bl2 hbo hb10
  have hw10 := bl2 hw8 hx10
  have ha10 := Lib.hid ((ha8.out.below hx10).more hx10.size)
  have HL10 := Lib.hid ((HL8.out.below hx10).more hx10.size)
  have HQ := Lib.hid hQ; have HM := Lib.hid hM
  have g1 := g1.below hx10 g1.lt
  have s0 := g1.cell 0; have s1 := g1.cell 1; have s2 := g1.cell 2; have s3 := g1.cell 3; have s4 := g1.cell 4
  simp at s0 s1 s2 s3 s4
  clear hbo hb10 HRR' hc1' hn1' hr1' hx10 ha8 HL8 hw8 hQ hM hv'
  refine Lib.hid ?_
  go_wp2_with (go_at_call 22; refine (lsame_any A' A c' c ch ch _ (by omega) (sl_al ha10.out (Below.refl _ _)) (sl_al HAA.out hw10)).mono ?_; rintro _ W11 ⟨e1, hb11⟩; rw [beq_self_eq_true] at e1; subst e1; refine Hid.out ?_)
  refine Lib.hid ?_
  have hx11 : Below W10.heap.size W10 W11 := bl3 (Below.refl _ _) hb11
  refine gen_w (fun W => Below w.heap.size w W ∧ Blk W w.heap.size #[.int .i64 s.places, .int .i64 s.signs, .int .i64 s.kinds, .int .i64 s.answers, s.rv] 24 ∧ Blk W W10.heap.size #[.int .i64 rk, .slice QA RQ.length qc, .slice MA RM.length mc] 73 ∧ Hid (Sl intCell 1 W W.heap.size LA L) ∧ Hid (Sl intCell 1 W W.heap.size QA RQ) ∧ Hid (Sl intCell 1 W W.heap.size MA RM) ∧ Hid (Sl intCell 1 W W.heap.size A ch))
    ⟨bl2 hw10 hx11, g1.below hx11 g1.lt, (Blk.new W10 _ _).below hb11 (by simp), (HL10.out.below hx11).more hx11.size, (HQ.out.below hx11).more hx11.size, (HM.out.below hx11).more hx11.size, (HAA.out.below (bl2 hw10 hx11)).more (bl2 hw10 hx11).size⟩ ?_
  obtain ⟨bk, hbk⟩ : ∃ x, W10.heap.size = x := ⟨_, rfl⟩
  rw [hbk]
  clear hx11 hb11 HL10 HQ HM hw10 g1 s0 s1 s2 s3 s4 ha10
  rintro W ⟨hw, g1, g3, SL, SQ, SM, SA⟩
  have s0 := g1.cell 0; have s1 := g1.cell 1; have s2 := g1.cell 2; have s3 := g1.cell 3; have s4 := g1.cell 4
  simp at s0 s1 s2 s3 s4
  have k0 := g3.cell 0; have k1 := g3.cell 1; have k2 := g3.cell 2
  simp at k0 k1 k2
  have h1 := HE0.out; rw [hv] at h1; change (2 : Int) = E0 at h1; subst h1
  have h2 := HLE.out; simp only [chartR, hv] at h2; cases h2
  have h3 := HNE.out; simp only [numberR, hv] at h3; cases h3
  have h4 := HRE.out; simp only [readR, hv] at h4; cases h4
  clear HE0 HLE HNE HRE
  go_wp2_with (first | (go_at_call 19; refine (rschool_any s _ ((HR.out.below hw).more hw.size)).mono ?_; rw [hv]; rintro _ Wx ⟨rfl, hbx⟩; have g3 := g3.below hbx g3.lt; have k0 := g3.cell 0; have k1 := g3.cell 1; have k2 := g3.cell 2; simp at k0 k1 k2) | (go_at_call 15; refine (known_any _).mono ?_; rintro _ Wy ⟨rfl, hby⟩))
  go_ret
  exact ⟨rfl, bl2 (bl2 hw hbx) hby⟩
end Go.Proofs.Ytidlmbajpbbilaa

/- almanac, plain: what a plan that is found says, one with one turn less, and one with one turn more. -/
import Derived.Test.YtfbnllmmoaialaaZ22He
import Derived.Test.YtfbnllmmoaialaaB15Av
import Derived.Test.YtfbnllmmoaialaaB20Fa
import Derived.Deep.RegionHeld3
import Derived.Deep.DeepCutAuto
namespace Go.Proofs.Ytfbnllmmoaialaa

theorem bothE_7 (x : Alm) (rs : List DRl) : bothE x rs ≠ 7 := by
  unfold bothE chkE
  split
  · split
    · decide
    · split <;> decide
  · decide
theorem planR_0 {x : Alm} {rs : List DRl} {s0 s1 g0 g1 T : Int} {P : List Int} (h : planR x rs s0 s1 g0 g1 T = (P, 0)) : bothE x rs = 0 ∧ okP s0 s1 g0 g1 T = true ∧ greedy g0 g1 ((spanL x rs s0 s1).zip (cnts g0 g1 T (spanL x rs s0 s1))) none T.toNat = some P := by
  unfold planR at h
  by_cases hb : bothE x rs = 0
  · rw [if_pos hb] at h
    cases ho : okP s0 s1 g0 g1 T with
    | false => rw [ho] at h; simp at h
    | true =>
      rw [ho] at h
      simp only [if_true] at h
      cases hg : greedy g0 g1 ((spanL x rs s0 s1).zip (cnts g0 g1 T (spanL x rs s0 s1))) none T.toNat with
      | none => rw [hg] at h; simp [planS] at h
      | some l => rw [hg] at h; simp [planS] at h; rw [h]; exact ⟨hb, rfl, rfl⟩
  · rw [if_neg hb] at h
    simp only [Prod.mk.injEq] at h
    exact absurd h.2 hb
theorem planR_n0 {x : Alm} {rs : List DRl} {s0 s1 g0 g1 T E : Int} {P : List Int} (h : planR x rs s0 s1 g0 g1 T = (P, E)) (hE : E ≠ 0) : P = [] := by
  unfold planR at h
  split at h
  · split at h
    · cases hg : greedy g0 g1 ((spanL x rs s0 s1).zip (cnts g0 g1 T (spanL x rs s0 s1))) none T.toNat with
      | none => rw [hg] at h; simp [planS] at h; exact h.1
      | some l => rw [hg] at h; simp [planS] at h; exact absurd h.2.symm hE
    · simp at h; exact h.1
  · simp at h; exact h.1
theorem planR_7 {x : Alm} {rs : List DRl} {s0 s1 g0 g1 T : Int} {P : List Int} (h : planR x rs s0 s1 g0 g1 T = (P, 7)) : bothE x rs = 0 ∧ okP s0 s1 g0 g1 T = true ∧ greedy g0 g1 ((spanL x rs s0 s1).zip (cnts g0 g1 T (spanL x rs s0 s1))) none T.toNat = none := by
  unfold planR at h
  by_cases hb : bothE x rs = 0
  · rw [if_pos hb] at h
    cases ho : okP s0 s1 g0 g1 T with
    | false => rw [ho] at h; simp at h
    | true =>
      rw [ho] at h
      simp only [if_true] at h
      cases hg : greedy g0 g1 ((spanL x rs s0 s1).zip (cnts g0 g1 T (spanL x rs s0 s1))) none T.toNat with
      | none => exact ⟨hb, rfl, rfl⟩
      | some l => rw [hg] at h; simp [planS] at h
  · rw [if_neg hb] at h
    simp only [Prod.mk.injEq] at h
    exact absurd h.2 (bothE_7 x rs)
theorem okP_iff {s0 s1 g0 g1 T : Int} : okP s0 s1 g0 g1 T = true ↔ spanB s0 s1 = true ∧ 1 ≤ g0 ∧ g0 ≤ g1 ∧ g1 ≤ 4000 ∧ 1 ≤ T ∧ T ≤ 60 := by
  simp [okP, inB]
theorem spanL_sorted (x : Alm) (rs : List DRl) (a b : Int) : (spanL x rs a b).Pairwise (· < ·) := daysL_sorted x _ a b
theorem spanL_mem {x : Alm} {rs : List DRl} {a b d : Int} (h : d ∈ spanL x rs a b) : a ≤ d ∧ d ≤ b ∧ allowB x rs d = true := by
  obtain ⟨h1, h2⟩ := daysL_bd x _ a b d h
  refine ⟨h1, h2, ?_⟩
  unfold spanL daysL daysN at h
  have := (List.mem_filter.1 h).2
  simpa [allB] using this
/-- with one turn more there is no plan either -/
theorem plan_more {x : Alm} {rs : List DRl} {s0 s1 g0 g1 T : Int} {P : List Int} (h : planR x rs s0 s1 g0 g1 T = (P, 7)) (hT : T < 60) : planR x rs s0 s1 g0 g1 (T + 1) = ([], 7) := by
  obtain ⟨hb, ho, hg⟩ := planR_7 h
  obtain ⟨o1, o2, o3, o4, o5, o6⟩ := okP_iff.1 ho
  have ho2 : okP s0 s1 g0 g1 (T + 1) = true := okP_iff.2 ⟨o1, o2, o3, o4, by omega, by omega⟩
  obtain ⟨-, q2⟩ := greedy_spec (g0 := g0) (g1 := g1) (T := T) (spanL x rs s0 s1) none T.toNat (by omega) (spanL_sorted x rs s0 s1)
  obtain ⟨r1, -⟩ := greedy_spec (g0 := g0) (g1 := g1) (T := T + 1) (spanL x rs s0 s1) none (T + 1).toNat (by omega) (spanL_sorted x rs s0 s1)
  unfold planR
  rw [if_pos hb, ho2]
  simp only [if_true]
  cases hg2 : greedy g0 g1 ((spanL x rs s0 s1).zip (cnts g0 g1 (T + 1) (spanL x rs s0 s1))) none (T + 1).toNat with
  | none => rfl
  | some p =>
    obtain ⟨h1, h2, -⟩ := r1 p hg2
    exact absurd (by rw [List.length_take, h2]; omega) (q2 hg _ (planOf_take T.toNat h1))
/-- what a plan says -/
structure PlanOk (x : Alm) (rs : List DRl) (s0 s1 g0 g1 T : Int) (P : List Int) : Prop where
  both : bothE x rs = 0
  span : spanB s0 s1 = true
  gaps : 1 ≤ g0 ∧ g0 ≤ g1 ∧ g1 ≤ 4000
  turns : 1 ≤ T ∧ T ≤ 60
  len : (P.length : Int) = T
  day : ∀ d ∈ P, s0 ≤ d ∧ d ≤ s1 ∧ allowB x rs d = true
  gap : ∀ i (hi : i + 1 < P.length), inB (P[i + 1] - P[i]) g0 g1 = true
theorem plan_okP {x : Alm} {rs : List DRl} {s0 s1 g0 g1 T : Int} {P : List Int} (h : planR x rs s0 s1 g0 g1 T = (P, 0)) : PlanOk x rs s0 s1 g0 g1 T P := by
  obtain ⟨hb, ho, hg⟩ := planR_0 h
  obtain ⟨o1, o2, o3, o4, o5, o6⟩ := okP_iff.1 ho
  obtain ⟨q1, -⟩ := greedy_spec (g0 := g0) (g1 := g1) (T := T) (spanL x rs s0 s1) none T.toNat (by omega) (spanL_sorted x rs s0 s1)
  obtain ⟨h1, h2, -⟩ := q1 P hg
  exact ⟨hb, o1, ⟨o2, o3, o4⟩, ⟨o5, o6⟩, by omega, fun d hd => spanL_mem (planOf_mem h1 d hd), planOf_gap h1⟩
/-- one turn: the next allowed day -/
theorem plan_one {x : Alm} {rs : List DRl} {s0 s1 g0 g1 : Int} {P : List Int} (h : planR x rs s0 s1 g0 g1 1 = (P, 0)) : ∃ d, P = [d] ∧ nextR x rs s0 s1 = (d, 0) := by
  obtain ⟨hb, ho, hg⟩ := planR_0 h
  obtain ⟨o1, -⟩ := okP_iff.1 ho
  obtain ⟨q1, -⟩ := greedy_spec (g0 := g0) (g1 := g1) (T := 1) (spanL x rs s0 s1) none 1 (by omega) (spanL_sorted x rs s0 s1)
  obtain ⟨h1, h2, h3⟩ := q1 P hg
  have hn : nextR x rs s0 s1 = firstR (spanL x rs s0 s1) := by unfold nextR; rw [if_pos hb, o1]; rfl
  match P, h2 with
  | [d], _ =>
    refine ⟨d, rfl, ?_⟩
    have hm := planOf_mem h1 d (by simp)
    have hs := spanL_sorted x rs s0 s1
    rw [hn]
    cases hl : spanL x rs s0 s1 with
    | nil => rw [hl] at hm; cases hm
    | cons a l =>
      rw [hl] at hm h3 hs
      have h4 := h3 [a] ⟨[], l, rfl, rfl, trivial⟩ rfl
      obtain ⟨hs1, -⟩ := List.pairwise_cons.1 hs
      have h5 : d ≤ a := by
        rcases h4 with h4 | ⟨h4, _⟩
        · exact Int.le_of_lt h4
        · exact Int.le_of_eq h4
      have h6 : d = a := by
        rcases List.mem_cons.1 hm with h | h
        · exact h
        · have := hs1 d h; omega
      rw [h6]; rfl
/-- with one turn less there is a plan no greater than the beginning -/
theorem plan_less {x : Alm} {rs : List DRl} {s0 s1 g0 g1 T : Int} {P : List Int} (h : planR x rs s0 s1 g0 g1 T = (P, 0)) (hT : T ≠ 1) : ∃ P2, planR x rs s0 s1 g0 g1 (T - 1) = (P2, 0) ∧ (P2.length : Int) = T - 1 ∧ LeL P2 (P.take (T - 1).toNat) := by
  obtain ⟨hb, ho, hg⟩ := planR_0 h
  obtain ⟨o1, o2, o3, o4, o5, o6⟩ := okP_iff.1 ho
  have ho2 : okP s0 s1 g0 g1 (T - 1) = true := okP_iff.2 ⟨o1, o2, o3, o4, by omega, by omega⟩
  obtain ⟨q1, -⟩ := greedy_spec (g0 := g0) (g1 := g1) (T := T) (spanL x rs s0 s1) none T.toNat (by omega) (spanL_sorted x rs s0 s1)
  obtain ⟨h1, h2, -⟩ := q1 P hg
  obtain ⟨r1, r2⟩ := greedy_spec (g0 := g0) (g1 := g1) (T := T - 1) (spanL x rs s0 s1) none (T - 1).toNat (by omega) (spanL_sorted x rs s0 s1)
  have hp := planOf_take (T - 1).toNat h1
  have hpl : (P.take (T - 1).toNat).length = (T - 1).toNat := by rw [List.length_take, h2]; omega
  cases hg2 : greedy g0 g1 ((spanL x rs s0 s1).zip (cnts g0 g1 (T - 1) (spanL x rs s0 s1))) none (T - 1).toNat with
  | none => exact absurd hpl (r2 hg2 _ hp)
  | some p =>
    obtain ⟨a1, a2, a3⟩ := r1 p hg2
    refine ⟨p, ?_, by omega, a3 _ hp hpl⟩
    unfold planR
    rw [if_pos hb, ho2]
    simp only [if_true, hg2]
    rfl
end Go.Proofs.Ytfbnllmmoaialaa
namespace Go.Proofs.Ytfbnllmmoaialaa
open Go.RowKit

theorem planX_any (x : Alm) (A2 : Option Addr) (c2 : Nat) (rs : List DRl) (s0 s1 g0 g1 T : Int) (w : World) (hl : x.cycles.length ≤ 1000000) (hc : Sl Cyc.cells 2 w w.heap.size x.a x.cycles) (hr : RlsAt w w.heap.size A2 rs) :
    Calls Try.prog 18 #[.agg x.cells.toArray, .slice A2 rs.length c2, .agg #[.int .i64 s0, .int .i64 s1], .agg #[.int .i64 g0, .int .i64 g1], .int .i64 T] w (RetSlE (planR x rs s0 s1 g0 g1 T).1 (planR x rs s0 s1 g0 g1 T).2 w) := by
  by_cases h : bothE x rs = 0 ∧ okP s0 s1 g0 g1 T = true
  · exact plan_ok x A2 c2 rs s0 s1 g0 g1 T w hl hc hr h.1 h.2
  · exact plan_err x A2 c2 rs s0 s1 g0 g1 T w hl hc hr h
theorem planV {x : Alm} {rs : List DRl} {s0 s1 g0 g1 T E : Int} {P : List Int} (h : planR x rs s0 s1 g0 g1 T = (P, E)) (hl : x.cycles.length ≤ 1000000) (A : Option Addr) (c : Nat) (A3 : Option Addr) (k3 : Nat) (l' : List DRl) (W : World) (hs : Sl Cyc.cells 2 W W.heap.size A x.cycles) (hr : RlsAt W W.heap.size A3 l') (hpl : l'.map DRl.pl = rs.map DRl.pl) :
    Calls Try.prog 18 #[.agg (Alm.cells ⟨A, c, x.cycles, x.sol, x.lun⟩).toArray, .slice A3 l'.length k3, .agg #[.int .i64 s0, .int .i64 s1], .agg #[.int .i64 g0, .int .i64 g1], .int .i64 T] W fun e w' => ∃ A4 q4, e = .returned (.tuple #[.slice A4 P.length q4, .int .i64 E]) ∧ Sl intCell 1 w' w'.heap.size A4 P ∧ (A4 = none → q4 = 0) ∧ Below W.heap.size W w' := by
  have h1 := planX_any (x.at_ A c) A3 k3 l' s0 s1 g0 g1 T W hl hs hr
  rw [planR_cong hpl, h] at h1
  exact h1
theorem nextV {x : Alm} {rs : List DRl} {fr to_ n E : Int} (h : nextR x rs fr to_ = (n, E)) (hl : x.cycles.length ≤ 1000000) (A : Option Addr) (c : Nat) (A3 : Option Addr) (k3 : Nat) (l' : List DRl) (W : World) (hs : Sl Cyc.cells 2 W W.heap.size A x.cycles) (hr : RlsAt W W.heap.size A3 l') (hpl : l'.map DRl.pl = rs.map DRl.pl) :
    Calls Try.prog 53 #[.agg (Alm.cells ⟨A, c, x.cycles, x.sol, x.lun⟩).toArray, .slice A3 l'.length k3, .int .i64 fr, .int .i64 to_] W fun e w' => e = .returned (.tuple #[.int .i64 n, .int .i64 E]) ∧ Below W.heap.size W w' := by
  have h1 := nextF_any (x.at_ A c) A3 k3 l' fr to_ W hl hs hr
  rw [nextR_cong hpl, h] at h1
  exact h1
theorem allowedV {x : Alm} {rs : List DRl} {day i E : Int} {ok : Bool} (h : allowedR x rs day = (ok, i, E)) (hl : x.cycles.length ≤ 1000000) (A : Option Addr) (c : Nat) (A3 : Option Addr) (k3 : Nat) (l' : List DRl) (W : World) (hs : Sl Cyc.cells 2 W W.heap.size A x.cycles) (hr : RlsAt W W.heap.size A3 l') (hpl : l'.map DRl.pl = rs.map DRl.pl) :
    Calls Try.prog 37 #[.agg (Alm.cells ⟨A, c, x.cycles, x.sol, x.lun⟩).toArray, .slice A3 l'.length k3, .int .i64 day] W fun e w' => e = .returned (.tuple #[.bool ok, .int .i64 i, .int .i64 E]) ∧ Below W.heap.size W w' := by
  have h1 := allowedF_any (x.at_ A c) A3 k3 l' day W hl hs hr
  rw [allowedR_cong hpl, h] at h1
  exact h1
end Go.Proofs.Ytfbnllmmoaialaa
namespace Go.Proofs.Ytfbnllmmoaialaa
open Go.RowKit

set_option maxRecDepth 100000 in
set_option maxHeartbeats 8000000 in
theorem lwturns_e (x : Alm) (A2 : Option Addr) (c2 : Nat) (rs : List DRl) (s0 s1 g0 g1 T E : Int) (P : List Int) (w : World) (hz : x.a = none → x.c = 0) (hcx : Sl Cyc.cells 2 w w.heap.size x.a x.cycles) (hr : RlsIn w A2 rs) (hlg : largeB x rs = false) (hP : planR x rs s0 s1 g0 g1 T = (P, E)) (hE : E ≠ 0) :
    Calls Try.prog 11 #[.agg x.cells.toArray, .slice A2 rs.length c2, .agg #[.int .i64 s0, .int .i64 s1, .int .i64 g0, .int .i64 g1, .int .i64 T]] w fun en w' => en = .returned (.bool true) ∧ Below w.heap.size w w' := by
  obtain ⟨hl35, hlx, -⟩ := not_large hlg
  have HLG := Lib.hid (fun W (hW : Below w.heap.size w W) => large_any x A2 c2 rs W ((hr.w.below hW).more hW.size))
  rw [hlg] at HLG
  have HOW := Lib.hid (fun W (hW : Below w.heap.size w W) => own_any x W hz (by omega) ((hcx.below hW).more hW.size))
  have HRU := Lib.hid (fun W (hW : Below w.heap.size w W) => rules_any A2 c2 rs W ((hr.at_.below hW).more hW.size) hr.nil (by omega))
  have HPN := Lib.hid (fun A c A3 k3 l' W h1 h2 h3 => planV hP (show x.cycles.length ≤ 1000000 by omega) A c A3 k3 l' W h1 h2 h3)
  obtain rfl := planR_n0 hP hE
  have n1 : (E != 0) = true := by simpa using hE
  have HMO : Hid (E = 7 → T < 60 → planR x rs s0 s1 g0 g1 (T + 1) = ([], 7)) := (fun h1 h2 => by subst h1; exact plan_more hP h2 : E = 7 → T < 60 → planR x rs s0 s1 g0 g1 (T + 1) = ([], 7))
  have HPM := Lib.hid (fun (h1 : E = 7) (h2 : T < 60) A c A3 k3 l' W h3 h4 h5 => planV (HMO.out h1 h2) (show x.cycles.length ≤ 1000000 by omega) A c A3 k3 l' W h3 h4 h5)
  have HT1 : Hid (E = 7 → 1 ≤ T) := (fun h1 => by subst h1; exact (okP_iff.1 (planR_7 hP).2.1).2.2.2.2.1 : E = 7 → 1 ≤ T)
  clear hr hcx hlg hP HMO hlx
  obtain ⟨A, c, l, ⟨e, b, u⟩, ⟨d, p, f, m, y, s, k⟩⟩ := x
  simp only [Alm.cells] at *
  go_enter Try.func11, Try.ntmps11
  go_upto_region 1 with fail
  refine gen_w (fun W => Blk W w.heap.size #[.slice A l.length c, .int .i64 e, .int .i64 b, .int .i64 u, .int .i64 d, .int .i64 p, .int .i64 f, .int .i64 m, .int .i64 y, .int .i64 s, .int .i64 k] 28 ∧ Blk W (w.heap.size + 1) #[.int .i64 s0, .int .i64 s1, .int .i64 g0, .int .i64 g1, .int .i64 T] 32 ∧ Below w.heap.size w W) ⟨(Blk.at_ rfl).alloc _, Blk.at_ (by simp), by (repeat (first | exact Below.refl _ _ | assumption | (refine Below.alloc ?_ (by first | omega | (simp; omega) | (simp; done)) _) | (refine Below.setCell ?_ (by first | omega | (simp; omega) | (simp; done)) _) | (refine Below.drew ?_) | (refine belowN ?_ _) | (refine Below.trans ?_ (Below.mono ‹Below _ _ _› (by first | omega | (simp; omega) | (simp; done))))))⟩ ?_
  rintro V0 ⟨ga, gt, hw⟩
  (have z0 := ga.cell 0; have z1 := ga.cell 1; have z2 := ga.cell 2; have z3 := ga.cell 3; have z4 := ga.cell 4; have z5 := ga.cell 5; have z6 := ga.cell 6; have z7 := ga.cell 7; have z8 := ga.cell 8; have z9 := ga.cell 9; have z10 := ga.cell 10; simp at z0 z1 z2 z3 z4 z5 z6 z7 z8 z9 z10; have u0 := gt.cell 0; have u1 := gt.cell 1; have u2 := gt.cell 2; have u3 := gt.cell 3; have u4 := gt.cell 4; simp at u0 u1 u2 u3 u4)
  go_upto_region 3 with (go_at_call 15; (with_reducible refine (HLG.out _ hw).mono ?_); rintro _ V1 ⟨rfl, hb1⟩; have hw := bl2 hw hb1; have ga := ga.below hb1 ga.lt; have gt := gt.below hb1 gt.lt; (have z0 := ga.cell 0; have z1 := ga.cell 1; have z2 := ga.cell 2; have z3 := ga.cell 3; have z4 := ga.cell 4; have z5 := ga.cell 5; have z6 := ga.cell 6; have z7 := ga.cell 7; have z8 := ga.cell 8; have z9 := ga.cell 9; have z10 := ga.cell 10; simp at z0 z1 z2 z3 z4 z5 z6 z7 z8 z9 z10; have u0 := gt.cell 0; have u1 := gt.cell 1; have u2 := gt.cell 2; have u3 := gt.cell 3; have u4 := gt.cell 4; simp at u0 u1 u2 u3 u4))
  clear hb1
  rename World => w0
  go_cut [7, 8] (fun s7 s8 wx => ∃ A4 q4, s7 = .slice A4 ([] : List Int).length q4 ∧ s8 = .int .i64 E ∧ Sl intCell 1 wx wx.heap.size A4 ([] : List Int) ∧ Below w0.heap.size w0 wx)
  case first =>
    as_aux_lemma =>
      go_region_held3 (fun W' => W'.cell? ⟨w.heap.size, 0, none⟩ = some (.slice A l.length c) ∧ W'.cell? ⟨w.heap.size, 1, none⟩ = some (.int .i64 e) ∧ W'.cell? ⟨w.heap.size, 2, none⟩ = some (.int .i64 b) ∧ W'.cell? ⟨w.heap.size, 3, none⟩ = some (.int .i64 u) ∧ W'.cell? ⟨w.heap.size, 4, none⟩ = some (.int .i64 d) ∧ W'.cell? ⟨w.heap.size, 5, none⟩ = some (.int .i64 p) ∧ W'.cell? ⟨w.heap.size, 6, none⟩ = some (.int .i64 f) ∧ W'.cell? ⟨w.heap.size, 7, none⟩ = some (.int .i64 m) ∧ W'.cell? ⟨w.heap.size, 8, none⟩ = some (.int .i64 y) ∧ W'.cell? ⟨w.heap.size, 9, none⟩ = some (.int .i64 s) ∧ W'.cell? ⟨w.heap.size, 10, none⟩ = some (.int .i64 k) ∧ W'.cell? ⟨w.heap.size + 1, 0, none⟩ = some (.int .i64 s0) ∧ W'.cell? ⟨w.heap.size + 1, 1, none⟩ = some (.int .i64 s1) ∧ W'.cell? ⟨w.heap.size + 1, 2, none⟩ = some (.int .i64 g0) ∧ W'.cell? ⟨w.heap.size + 1, 3, none⟩ = some (.int .i64 g1) ∧ W'.cell? ⟨w.heap.size + 1, 4, none⟩ = some (.int .i64 T)) (first | exact ⟨z0, z1, z2, z3, z4, z5, z6, z7, z8, z9, z10, u0, u1, u2, u3, u4⟩ | go_keep) (first | (go_at_call 18; (with_reducible refine (HPN.out _ _ _ _ _ _ hs2 hr3 HP3.out).mono ?_); rintro _ w3 ⟨A4, q4, rfl, hs4, -, hb3⟩; have hy3 : Below w0.heap.size w0 w3 := bl2 hy2 hb3; have ga3 := ga.below hy3 ga.lt; have gt3 := gt.below hy3 gt.lt; (have z0 := ga3.cell 0; have z1 := ga3.cell 1; have z2 := ga3.cell 2; have z3 := ga3.cell 3; have z4 := ga3.cell 4; have z5 := ga3.cell 5; have z6 := ga3.cell 6; have z7 := ga3.cell 7; have z8 := ga3.cell 8; have z9 := ga3.cell 9; have z10 := ga3.cell 10; simp at z0 z1 z2 z3 z4 z5 z6 z7 z8 z9 z10; have u0 := gt3.cell 0; have u1 := gt3.cell 1; have u2 := gt3.cell 2; have u3 := gt3.cell 3; have u4 := gt3.cell 4; simp at u0 u1 u2 u3 u4)) | (go_at_call 20; (with_reducible refine (HRU.out _ (bl2 hw hy1)).mono ?_); rintro _ w2 ⟨A3, q3, l', rfl, hpl, hown3, hrow3, hb2⟩; have hs2 := (hs1.below hb2).more hb2.size; have hr3 := RetRls.at_ hown3.out hrow3 (by rw [len_pl hpl]; omega); have HP3 := Lib.hid hpl; clear hpl hown3 hrow3; have hy2 : Below w0.heap.size w0 w2 := bl2 hy1 hb2; have ga2 := ga.below hy2 ga.lt; have gt2 := gt.below hy2 gt.lt; (have z0 := ga2.cell 0; have z1 := ga2.cell 1; have z2 := ga2.cell 2; have z3 := ga2.cell 3; have z4 := ga2.cell 4; have z5 := ga2.cell 5; have z6 := ga2.cell 6; have z7 := ga2.cell 7; have z8 := ga2.cell 8; have z9 := ga2.cell 9; have z10 := ga2.cell 10; simp at z0 z1 z2 z3 z4 z5 z6 z7 z8 z9 z10; have u0 := gt2.cell 0; have u1 := gt2.cell 1; have u2 := gt2.cell 2; have u3 := gt2.cell 3; have u4 := gt2.cell 4; simp at u0 u1 u2 u3 u4)) | (go_at_call 19; (with_reducible refine (HOW.out _ (bl2 hw (by (repeat (first | exact Below.refl _ _ | assumption | (refine Below.alloc ?_ (by first | omega | (simp; omega) | (simp; done)) _) | (refine Below.setCell ?_ (by first | omega | (simp; omega) | (simp; done)) _) | (refine Below.drew ?_) | (refine belowN ?_ _) | (refine Below.trans ?_ (Below.mono ‹Below _ _ _› (by first | omega | (simp; omega) | (simp; done))))))))).mono ?_); rintro _ w1 ⟨A1, q1, rfl, hs1, -, hb1⟩; have hy1 : Below w0.heap.size w0 w1 := Below.trans (by (repeat (first | exact Below.refl _ _ | assumption | (refine Below.alloc ?_ (by first | omega | (simp; omega) | (simp; done)) _) | (refine Below.setCell ?_ (by first | omega | (simp; omega) | (simp; done)) _) | (refine Below.drew ?_) | (refine belowN ?_ _) | (refine Below.trans ?_ (Below.mono ‹Below _ _ _› (by first | omega | (simp; omega) | (simp; done))))))) (hb1.mono (by simp)); have ga1 := ga.below hy1 ga.lt; have gt1 := gt.below hy1 gt.lt; (have z0 := ga1.cell 0; have z1 := ga1.cell 1; have z2 := ga1.cell 2; have z3 := ga1.cell 3; have z4 := ga1.cell 4; have z5 := ga1.cell 5; have z6 := ga1.cell 6; have z7 := ga1.cell 7; have z8 := ga1.cell 8; have z9 := ga1.cell 9; have z10 := ga1.cell 10; simp at z0 z1 z2 z3 z4 z5 z6 z7 z8 z9 z10; have u0 := gt1.cell 0; have u1 := gt1.cell 1; have u2 := gt1.cell 2; have u3 := gt1.cell 3; have u4 := gt1.cell 4; simp at u0 u1 u2 u3 u4)))
      all_goals (
        go_wp2_with fail
        go_meet
        exact ⟨_, _, rfl, rfl, hs4, hy3⟩)
  case rest =>
    obtain ⟨A4, q4, rfl, rfl, hs4, hcx⟩ := hcut
    rename World => W5
    have ga5 := ga.below hcx ga.lt
    have gt5 := gt.below hcx gt.lt
    have hw5 := bl2 hw hcx
    clear hcx ga gt hw
    (clear z0 z1 z2 z3 z4 z5 z6 z7 z8 z9 z10 u0 u1 u2 u3 u4)
    have ga := ga5
    have gt := gt5
    have hw := hw5
    clear ga5 gt5 hw5
    (have z0 := ga.cell 0; have z1 := ga.cell 1; have z2 := ga.cell 2; have z3 := ga.cell 3; have z4 := ga.cell 4; have z5 := ga.cell 5; have z6 := ga.cell 6; have z7 := ga.cell 7; have z8 := ga.cell 8; have z9 := ga.cell 9; have z10 := ga.cell 10; simp at z0 z1 z2 z3 z4 z5 z6 z7 z8 z9 z10; have u0 := gt.cell 0; have u1 := gt.cell 1; have u2 := gt.cell 2; have u3 := gt.cell 3; have u4 := gt.cell 4; simp at u0 u1 u2 u3 u4)
    clear HPN hs4
    by_cases h7 : E = 7 ∧ T < 60
    · obtain ⟨rfl, hT⟩ := h7
      have HPN := Lib.hid (HPM.out rfl hT)
      have hT1 := HT1.out rfl
      have t1 : decide (T < 60) = true := by simpa using hT
      have v1 : IntKind.i64.wrap (T + 1) = T + 1 := IntWalk.i64_in _ ⟨by omega, by omega⟩
      clear HPM HT1
      go_upto_region 6 with fail
      rename World => w0
      go_cut [9, 10] (fun s7 s8 wx => ∃ A4 q4, s7 = .slice A4 ([] : List Int).length q4 ∧ s8 = .int .i64 7 ∧ Sl intCell 1 wx wx.heap.size A4 ([] : List Int) ∧ Below w0.heap.size w0 wx)
      case first =>
        as_aux_lemma =>
          go_region_held3 (fun W' => W'.cell? ⟨w.heap.size, 0, none⟩ = some (.slice A l.length c) ∧ W'.cell? ⟨w.heap.size, 1, none⟩ = some (.int .i64 e) ∧ W'.cell? ⟨w.heap.size, 2, none⟩ = some (.int .i64 b) ∧ W'.cell? ⟨w.heap.size, 3, none⟩ = some (.int .i64 u) ∧ W'.cell? ⟨w.heap.size, 4, none⟩ = some (.int .i64 d) ∧ W'.cell? ⟨w.heap.size, 5, none⟩ = some (.int .i64 p) ∧ W'.cell? ⟨w.heap.size, 6, none⟩ = some (.int .i64 f) ∧ W'.cell? ⟨w.heap.size, 7, none⟩ = some (.int .i64 m) ∧ W'.cell? ⟨w.heap.size, 8, none⟩ = some (.int .i64 y) ∧ W'.cell? ⟨w.heap.size, 9, none⟩ = some (.int .i64 s) ∧ W'.cell? ⟨w.heap.size, 10, none⟩ = some (.int .i64 k) ∧ W'.cell? ⟨w.heap.size + 1, 0, none⟩ = some (.int .i64 s0) ∧ W'.cell? ⟨w.heap.size + 1, 1, none⟩ = some (.int .i64 s1) ∧ W'.cell? ⟨w.heap.size + 1, 2, none⟩ = some (.int .i64 g0) ∧ W'.cell? ⟨w.heap.size + 1, 3, none⟩ = some (.int .i64 g1) ∧ W'.cell? ⟨w.heap.size + 1, 4, none⟩ = some (.int .i64 T)) (first | exact ⟨z0, z1, z2, z3, z4, z5, z6, z7, z8, z9, z10, u0, u1, u2, u3, u4⟩ | go_keep) (first | (go_at_call 18; (with_reducible refine (HPN.out _ _ _ _ _ _ hs2 hr3 HP3.out).mono ?_); rintro _ w3 ⟨A4, q4, rfl, hs4, -, hb3⟩; have hy3 : Below w0.heap.size w0 w3 := bl2 hy2 hb3; have ga3 := ga.below hy3 ga.lt; have gt3 := gt.below hy3 gt.lt; (have z0 := ga3.cell 0; have z1 := ga3.cell 1; have z2 := ga3.cell 2; have z3 := ga3.cell 3; have z4 := ga3.cell 4; have z5 := ga3.cell 5; have z6 := ga3.cell 6; have z7 := ga3.cell 7; have z8 := ga3.cell 8; have z9 := ga3.cell 9; have z10 := ga3.cell 10; simp at z0 z1 z2 z3 z4 z5 z6 z7 z8 z9 z10; have u0 := gt3.cell 0; have u1 := gt3.cell 1; have u2 := gt3.cell 2; have u3 := gt3.cell 3; have u4 := gt3.cell 4; simp at u0 u1 u2 u3 u4)) | (go_at_call 20; (with_reducible refine (HRU.out _ (bl2 hw hy1)).mono ?_); rintro _ w2 ⟨A3, q3, l', rfl, hpl, hown3, hrow3, hb2⟩; have hs2 := (hs1.below hb2).more hb2.size; have hr3 := RetRls.at_ hown3.out hrow3 (by rw [len_pl hpl]; omega); have HP3 := Lib.hid hpl; clear hpl hown3 hrow3; have hy2 : Below w0.heap.size w0 w2 := bl2 hy1 hb2; have ga2 := ga.below hy2 ga.lt; have gt2 := gt.below hy2 gt.lt; (have z0 := ga2.cell 0; have z1 := ga2.cell 1; have z2 := ga2.cell 2; have z3 := ga2.cell 3; have z4 := ga2.cell 4; have z5 := ga2.cell 5; have z6 := ga2.cell 6; have z7 := ga2.cell 7; have z8 := ga2.cell 8; have z9 := ga2.cell 9; have z10 := ga2.cell 10; simp at z0 z1 z2 z3 z4 z5 z6 z7 z8 z9 z10; have u0 := gt2.cell 0; have u1 := gt2.cell 1; have u2 := gt2.cell 2; have u3 := gt2.cell 3; have u4 := gt2.cell 4; simp at u0 u1 u2 u3 u4)) | (go_at_call 19; (with_reducible refine (HOW.out _ (bl2 hw (by (repeat (first | exact Below.refl _ _ | assumption | (refine Below.alloc ?_ (by first | omega | (simp; omega) | (simp; done)) _) | (refine Below.setCell ?_ (by first | omega | (simp; omega) | (simp; done)) _) | (refine Below.drew ?_) | (refine belowN ?_ _) | (refine Below.trans ?_ (Below.mono ‹Below _ _ _› (by first | omega | (simp; omega) | (simp; done))))))))).mono ?_); rintro _ w1 ⟨A1, q1, rfl, hs1, -, hb1⟩; have hy1 : Below w0.heap.size w0 w1 := Below.trans (by (repeat (first | exact Below.refl _ _ | assumption | (refine Below.alloc ?_ (by first | omega | (simp; omega) | (simp; done)) _) | (refine Below.setCell ?_ (by first | omega | (simp; omega) | (simp; done)) _) | (refine Below.drew ?_) | (refine belowN ?_ _) | (refine Below.trans ?_ (Below.mono ‹Below _ _ _› (by first | omega | (simp; omega) | (simp; done))))))) (hb1.mono (by simp)); have ga1 := ga.below hy1 ga.lt; have gt1 := gt.below hy1 gt.lt; (have z0 := ga1.cell 0; have z1 := ga1.cell 1; have z2 := ga1.cell 2; have z3 := ga1.cell 3; have z4 := ga1.cell 4; have z5 := ga1.cell 5; have z6 := ga1.cell 6; have z7 := ga1.cell 7; have z8 := ga1.cell 8; have z9 := ga1.cell 9; have z10 := ga1.cell 10; simp at z0 z1 z2 z3 z4 z5 z6 z7 z8 z9 z10; have u0 := gt1.cell 0; have u1 := gt1.cell 1; have u2 := gt1.cell 2; have u3 := gt1.cell 3; have u4 := gt1.cell 4; simp at u0 u1 u2 u3 u4)))
          all_goals (
            go_wp2_with fail
            go_meet
            exact ⟨_, _, rfl, rfl, hs4, hy3⟩)
      case rest =>
        obtain ⟨A5, q5, rfl, rfl, hs4, hcx⟩ := hcut
        rename World => W6
        have ga5 := ga.below hcx ga.lt
        have gt5 := gt.below hcx gt.lt
        have hw5 := bl2 hw hcx
        clear hcx ga gt hw
        (clear z0 z1 z2 z3 z4 z5 z6 z7 z8 z9 z10 u0 u1 u2 u3 u4)
        have ga := ga5
        have gt := gt5
        have hw := hw5
        clear ga5 gt5 hw5
        (have z0 := ga.cell 0; have z1 := ga.cell 1; have z2 := ga.cell 2; have z3 := ga.cell 3; have z4 := ga.cell 4; have z5 := ga.cell 5; have z6 := ga.cell 6; have z7 := ga.cell 7; have z8 := ga.cell 8; have z9 := ga.cell 9; have z10 := ga.cell 10; simp at z0 z1 z2 z3 z4 z5 z6 z7 z8 z9 z10; have u0 := gt.cell 0; have u1 := gt.cell 1; have u2 := gt.cell 2; have u3 := gt.cell 3; have u4 := gt.cell 4; simp at u0 u1 u2 u3 u4)
        clear HPN hs4
        simp only [List.length_nil]
        go_wp2_with (go_at_call 17; refine (known_any _).mono ?_; rintro _ V1 ⟨rfl, hb1⟩; have hw := bl2 hw hb1)
        refine bodyPost_ret (v := .bool true) (by simp [results, Try.results11, go_sem]) rfl ?_
        exact ⟨rfl, hw⟩
    · have t2 : ¬ (E = 7 ∧ T < 60) := h7
      simp only [List.length_nil]
      by_cases h71 : E = 7
      · subst h71
        have t1 : decide (T < 60) = false := by simp; omega
        go_wp2_with (go_at_call 17; refine (known_any _).mono ?_; rintro _ V1 ⟨rfl, hb1⟩; have hw := bl2 hw hb1)
        refine bodyPost_ret (v := .bool true) (by simp [results, Try.results11, go_sem]) rfl ?_
        exact ⟨rfl, hw⟩
      · have n7 : (E == 7) = false := by simpa using h71
        go_wp2_with (go_at_call 17; refine (known_any _).mono ?_; rintro _ V1 ⟨rfl, hb1⟩; have hw := bl2 hw hb1)
        refine bodyPost_ret (v := .bool true) (by simp [results, Try.results11, go_sem]) rfl ?_
        exact ⟨rfl, hw⟩
end Go.Proofs.Ytfbnllmmoaialaa

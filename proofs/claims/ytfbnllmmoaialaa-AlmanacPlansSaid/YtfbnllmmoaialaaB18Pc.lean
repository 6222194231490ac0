/- almanac: plans, plain: how many turns there can be from each day on; the smallest plan. -/
import Derived.Test.YtfbnllmmoaialaaB17Az
namespace Go.Proofs.Ytfbnllmmoaialaa

/-- the most turns that there can be behind a day -/
def bestOf (g0 g1 d : Int) : List Int → List Int → Int
  | x :: l, c :: cs => max (if inB (x - d) g0 g1 then c else 0) (bestOf g0 g1 d l cs)
  | _, _ => 0
/-- how many turns there can be from each day on, at most T -/
def cnts (g0 g1 T : Int) : List Int → List Int
  | [] => []
  | d :: l => min (bestOf g0 g1 d l (cnts g0 g1 T l) + 1) T :: cnts g0 g1 T l
theorem cnts_len (g0 g1 T : Int) : ∀ l : List Int, (cnts g0 g1 T l).length = l.length
  | [] => rfl
  | d :: l => by simp [cnts, cnts_len g0 g1 T l]
theorem cnts_drop (g0 g1 T : Int) : ∀ (l : List Int) (m : Nat), (cnts g0 g1 T l).drop m = cnts g0 g1 T (l.drop m)
  | [], m => by simp [cnts]
  | d :: l, 0 => rfl
  | d :: l, m + 1 => by simp only [cnts, List.drop_succ_cons]; exact cnts_drop g0 g1 T l m
theorem bestOf_nn (g0 g1 d : Int) : ∀ l cs : List Int, 0 ≤ bestOf g0 g1 d l cs
  | [], _ => by simp [bestOf]
  | _ :: _, [] => by simp [bestOf]
  | x :: l, c :: cs => by simp only [bestOf]; have := bestOf_nn g0 g1 d l cs; omega
theorem bestOf_le (g0 g1 d T : Int) (hT : 0 ≤ T) : ∀ l cs : List Int, (∀ c ∈ cs, c ≤ T) → bestOf g0 g1 d l cs ≤ T
  | [], _, _ => by simpa [bestOf] using hT
  | _ :: _, [], _ => by simpa [bestOf] using hT
  | x :: l, c :: cs, h => by
    simp only [bestOf]
    have h1 := bestOf_le g0 g1 d T hT l cs (fun y hy => h y (by simp [hy]))
    have h2 := h c (by simp)
    split <;> omega
theorem cnts_bd (g0 g1 T : Int) (hT : 1 ≤ T) : ∀ l : List Int, ∀ c ∈ cnts g0 g1 T l, 1 ≤ c ∧ c ≤ T
  | [], c, h => by simp [cnts] at h
  | d :: l, c, h => by
    simp only [cnts, List.mem_cons] at h
    rcases h with rfl | h
    · have := bestOf_nn g0 g1 d l (cnts g0 g1 T l); omega
    · exact cnts_bd g0 g1 T hT l c h
/-- the same, of the first j days behind it -/
def bestN (g0 g1 d : Int) (l cs : List Int) (j : Nat) : Int := bestOf g0 g1 d (l.take j) (cs.take j)
theorem bestOf_snoc (g0 g1 d x c : Int) : ∀ l cs : List Int, l.length = cs.length → bestOf g0 g1 d (l ++ [x]) (cs ++ [c]) = max (bestOf g0 g1 d l cs) (if inB (x - d) g0 g1 then c else 0)
  | [], [], _ => by simp only [List.nil_append, bestOf]; split <;> omega
  | y :: l, e :: cs, h => by
    simp only [List.cons_append, bestOf]
    rw [bestOf_snoc g0 g1 d x c l cs (by simpa using h)]
    omega
  | [], _ :: _, h => by simp at h
  | _ :: _, [], h => by simp at h
theorem bestN_succ {g0 g1 d : Int} {l cs : List Int} (h : l.length = cs.length) {j : Nat} (hj : j < l.length) : bestN g0 g1 d l cs (j + 1) = max (bestN g0 g1 d l cs j) (if inB (l[j] - d) g0 g1 then cs[j]'(by omega) else 0) := by
  unfold bestN
  rw [List.take_add_one, List.take_add_one, List.getElem?_eq_getElem hj, List.getElem?_eq_getElem (show j < cs.length by omega)]
  exact bestOf_snoc g0 g1 d _ _ _ _ (by simp; omega)
theorem bestN_all {g0 g1 d : Int} {l cs : List Int} (h : l.length = cs.length) {j : Nat} (hj : l.length ≤ j) : bestN g0 g1 d l cs j = bestOf g0 g1 d l cs := by
  unfold bestN
  rw [List.take_of_length_le hj, List.take_of_length_le (by omega)]
theorem bestN_mono {g0 g1 d : Int} {l cs : List Int} (h : l.length = cs.length) {i j : Nat} (hij : i ≤ j) : bestN g0 g1 d l cs i ≤ bestN g0 g1 d l cs j := by
  induction j with
  | zero => obtain rfl : i = 0 := by omega
            omega
  | succ j ih =>
    by_cases e : i = j + 1
    · subst e; omega
    · have := ih (by omega)
      by_cases hj : j < l.length
      · rw [bestN_succ h hj]; omega
      · rw [bestN_all h (j := j + 1) (by omega), ← bestN_all h (j := j) (by omega)]; omega
/-- beyond the gap nothing is near enough -/
theorem bestN_far {g0 g1 d : Int} {l cs : List Int} (h : l.length = cs.length) (hs : l.Pairwise (· < ·)) {j : Nat} (hj : j < l.length) (hf : g1 < l[j] - d) (hc : ∀ c ∈ cs, 0 ≤ c) : bestN g0 g1 d l cs j = bestOf g0 g1 d l cs := by
  rw [← bestN_all h (Nat.le_refl _)]
  have key : ∀ n, j ≤ n → n ≤ l.length → bestN g0 g1 d l cs n = bestN g0 g1 d l cs j := by
    intro n
    induction n with
    | zero => intro h1 _; obtain rfl : j = 0 := by omega
              rfl
    | succ n ih =>
      intro h1 h2
      by_cases e : j = n + 1
      · rw [e]
      · rw [bestN_succ h (by omega), ih (by omega) (by omega)]
        have hle : l[j] ≤ l[n] := by
          by_cases e2 : j = n
          · subst e2; omega
          · exact Int.le_of_lt (List.pairwise_iff_getElem.1 hs j n hj (by omega) (by omega))
        have hb : inB (l[n] - d) g0 g1 = false := inB_not.2 (by omega)
        rw [hb]
        have hnn : 0 ≤ bestN g0 g1 d l cs j := bestOf_nn _ _ _ _ _
        simp only [Bool.false_eq_true, if_false]
        omega
  exact (key l.length (by omega) (Nat.le_refl _)).symm
/-- a day is as far from the last one as it may be -/
def nearB (g0 g1 : Int) (last : Option Int) (d : Int) : Bool := match last with
  | none => true
  | some x => inB (d - x) g0 g1
/-- the smallest plan out of days with their numbers -/
def greedy (g0 g1 : Int) : List (Int × Int) → Option Int → Nat → Option (List Int)
  | _, _, 0 => some []
  | [], _, _ + 1 => none
  | (d, c) :: l, last, k + 1 =>
    if decide ((k : Int) + 1 ≤ c) && nearB g0 g1 last d then (greedy g0 g1 l (some d) k).map (d :: ·) else greedy g0 g1 l last (k + 1)
def planS : Option (List Int) → List Int × Int
  | some l => (l, 0)
  | none => ([], 7)
/-- what may be asked of Plan -/
def okP (s0 s1 g0 g1 T : Int) : Bool := spanB s0 s1 && (decide (1 ≤ g0) && (decide (g0 ≤ g1) && (decide (g1 ≤ 4000) && inB T 1 60)))
def planR (x : Alm) (rs : List DRl) (s0 s1 g0 g1 T : Int) : List Int × Int :=
  if bothE x rs = 0 then (if okP s0 s1 g0 g1 T then planS (greedy g0 g1 ((spanL x rs s0 s1).zip (cnts g0 g1 T (spanL x rs s0 s1))) none T.toNat) else ([], 3)) else ([], bothE x rs)
theorem daysL_sorted (x : Alm) (ps : List DPs) (fr to_ : Int) : (daysL x ps fr to_).Pairwise (· < ·) := by
  unfold daysL daysN
  refine List.Pairwise.filter _ ?_
  refine List.Pairwise.map _ ?_ List.pairwise_lt_range
  intro a b h
  omega
theorem daysL_bd (x : Alm) (ps : List DPs) (fr to_ : Int) : ∀ d ∈ daysL x ps fr to_, fr ≤ d ∧ d ≤ to_ := by
  intro d hd
  unfold daysL daysN at hd
  have := (List.mem_filter.1 hd).1
  simp only [List.mem_map, List.mem_range] at this
  obtain ⟨i, hi, rfl⟩ := this
  omega
end Go.Proofs.Ytfbnllmmoaialaa
namespace Go.Proofs.Ytfbnllmmoaialaa
open Go.RowKit

theorem ent_plan1 : Ent 64 := ent_of (fn := Try.f64) (by kernel_rfl) (by kernel_rfl) (by kernel_rfl)
set_option maxRecDepth 100000 in
set_option maxHeartbeats 1000000 in
theorem plan1_any (lb gb : Nat) (A : Option Addr) (c : Nat) (L : List Int) (g0 g1 : Int) (i k : Nat) (w : World) (hi : i < L.length) (hk : k < L.length) (hbd : ∀ d ∈ L, 0 ≤ d ∧ d ≤ 1000000)
    (hl : Blk w lb #[.slice A L.length c] 38) (hs : Sl intCell 1 w w.heap.size A L) (hg : Blk w gb #[.int .i64 g0, .int .i64 g1] 30) :
    Calls Try.prog 64 #[.int .i64 (i : Int), .int .i64 (k : Int), .pointer (some ⟨lb, 0, none⟩), .pointer (some ⟨gb, 0, none⟩)] w fun e w' => e = .returned (.bool (inB (L[k] - L[i]) g0 g1)) ∧ Below w.heap.size w w' := by
  obtain ⟨ab, ao, rfl, hblk, ci⟩ := hs.int_at hi
  obtain ⟨ab2, ao2, e2, _, ck⟩ := hs.int_at hk
  have e3 : ab2 = ab := by simpa using (congrArg (fun a => (a.getD ⟨0, 0, none⟩).block) e2).symm
  have e4 : ao2 = ao := by simpa using (congrArg (fun a => (a.getD ⟨0, 0, none⟩).off) e2).symm
  subst e3 e4
  have hq1 := hbd _ (List.getElem_mem hi)
  have hq2 := hbd _ (List.getElem_mem hk)
  obtain ⟨x, hx⟩ : ∃ x, x = L[i] := ⟨_, rfl⟩
  obtain ⟨y, hy⟩ : ∃ y, y = L[k] := ⟨_, rfl⟩
  rw [← hx] at ci hq1 ⊢
  rw [← hy] at ck hq2 ⊢
  have v1 : IntKind.i64.wrap (y - x) = y - x := IntWalk.i64_in _ ⟨by omega, by omega⟩
  obtain ⟨n, hn⟩ : ∃ n, n = L.length := ⟨_, rfl⟩
  rw [← hn] at hl hi hk
  have c0 := hl.cell 0; have q0 := hg.cell 0; have q1 := hg.cell 1
  simp at c0 q0 q1
  have i0 : (0 : Int) ≤ (i : Int) := by omega
  have i1 : (i : Int) < (n : Int) := by omega
  have k0 : (0 : Int) ≤ (k : Int) := by omega
  have k1 : (k : Int) < (n : Int) := by omega
  have HW := Lib.hid (fun W => within_any (y - x) g0 g1 W)
  clear hx hy hn hl hg hbd hs e2
  go_enter Try.func64, Try.ntmps64
  go_upto_region 1 with fail
  (refine wp_region_ext (by kernel_rfl) (by kernel_rfl) ?_; (repeat (go_big_quiet_step((go_at_call 61; exact Calls.ext_same (HW.out _))))); with_reducible refine wpQuiet_nil ?_; intro w1 hw1; have hb1 := ext_below hw1; clear hw1)
  go_wp2
  go_ret
  exact ⟨rfl, hb1⟩
theorem planR_bad {x : Alm} {rs : List DRl} {s0 s1 g0 g1 T : Int} (h : bothE x rs = 0) (hk : okP s0 s1 g0 g1 T = false) : planR x rs s0 s1 g0 g1 T = ([], 3) := by
  unfold planR; rw [if_pos h, hk]; rfl
set_option maxRecDepth 100000 in
set_option maxHeartbeats 4000000 in
theorem plan_err (x : Alm) (A2 : Option Addr) (c2 : Nat) (rs : List DRl) (s0 s1 g0 g1 T : Int) (w : World) (hl : x.cycles.length ≤ 1000000) (hc : Sl Cyc.cells 2 w w.heap.size x.a x.cycles) (hr : RlsAt w w.heap.size A2 rs) (hbad : ¬ (bothE x rs = 0 ∧ okP s0 s1 g0 g1 T = true)) :
    Calls Try.prog 18 #[.agg x.cells.toArray, .slice A2 rs.length c2, .agg #[.int .i64 s0, .int .i64 s1], .agg #[.int .i64 g0, .int .i64 g1], .int .i64 T] w (RetSlE (planR x rs s0 s1 g0 g1 T).1 (planR x rs s0 s1 g0 g1 T).2 w) := by
  obtain ⟨v, hv⟩ : ∃ v, v = bothE x rs := ⟨_, rfl⟩
  have HBO := Lib.hid (fun W (hW : Below w.heap.size w W) => both_val (A2 := A2) (c2 := c2) hv.symm W hl ((hc.below hW).more hW.size) ((hr.below hW).more hW.size))
  by_cases h0 : v = 0
  · subst h0
    have hok : okP s0 s1 g0 g1 T = false := by
      cases h : okP s0 s1 g0 g1 T with
      | false => rfl
      | true => exact absurd ⟨hv.symm, h⟩ hbad
    have HT := Lib.hid (planR_bad hv.symm hok)
    have hok2 := hok
    unfold okP at hok2
    clear hbad hok
    cases hd : spanB s0 s1 with
    | false =>
      have HSP := Lib.hid (fun W => isSpan_val hd W)
      have HWI := HSP
      clear hok2
      clear hd hv hc hr
      obtain ⟨A, c, l, ⟨e, b, u⟩, ⟨d, p, f, m, y, s, k⟩⟩ := x
      simp only [Alm.cells] at *
      go_enter Try.func18, Try.ntmps18
      go_wp2_with (first | (go_at_call 59; refine (HBO.out _ (by (repeat (first | exact Below.refl _ _ | assumption | (refine Below.alloc ?_ (by first | omega | (simp; omega) | (simp; done)) _) | (refine Below.setCell ?_ (by first | omega | (simp; omega) | (simp; done)) _) | (refine Below.drew ?_) | (refine belowN ?_ _) | (refine Below.trans ?_ (Below.mono ‹Below _ _ _› (by first | omega | (simp; omega) | (simp; done)))))))).mono ?_; rintro _ W1 ⟨rfl, hb1⟩; have hw1 : Below w.heap.size w W1 := bl2 (by (repeat (first | exact Below.refl _ _ | assumption | (refine Below.alloc ?_ (by first | omega | (simp; omega) | (simp; done)) _) | (refine Below.setCell ?_ (by first | omega | (simp; omega) | (simp; done)) _) | (refine Below.drew ?_) | (refine belowN ?_ _) | (refine Below.trans ?_ (Below.mono ‹Below _ _ _› (by first | omega | (simp; omega) | (simp; done))))))) hb1; have gs1 : Blk W1 (w.heap.size + 1) #[.int .i64 s0, .int .i64 s1] 30 := ((Blk.at_ (by simp)).alloc _).below hb1 (by first | omega | (simp; omega) | (simp; done)); have gg1 : Blk W1 (w.heap.size + 1 + 1) #[.int .i64 g0, .int .i64 g1] 30 := (Blk.at_ (by simp)).below hb1 (by first | omega | (simp; omega) | (simp; done)); have u0 := gs1.cell 0; have u1 := gs1.cell 1; have u2 := gg1.cell 0; have u3 := gg1.cell 1; simp at u0 u1 u2 u3) | (go_at_call 60; refine (HSP.out _).mono ?_; rintro _ W2 ⟨rfl, hb2⟩; have hw2 := bl2 hw1 hb2; have gs2 := gs1.below hb2 gs1.lt; have gg2 := gg1.below hb2 gg1.lt; have r0 := gs2.cell 0; have r1 := gs2.cell 1; have r2 := gg2.cell 0; have r3 := gg2.cell 1; simp at r0 r1 r2 r3) | (go_at_call 61; (with_reducible refine (HWI.out _).mono ?_); rintro _ _ ⟨rfl, rfl⟩))
      refine bodyPost_ret (v := .tuple #[.slice none 0 0, .int .i64 3]) (by simp [results, Try.results18, go_sem]) rfl ?_
      rw [HT.out]
      exact retSlE_nil hw2
    | true =>
      have HSP := Lib.hid (fun W => isSpan_val hd W)
      rw [hd] at hok2
      by_cases b1 : g0 < 1
      · have d1 : decide (g0 < 1) = true := by simpa using b1
        have HWI := HSP
        clear hok2
        clear hd hv hc hr
        obtain ⟨A, c, l, ⟨e, b, u⟩, ⟨d, p, f, m, y, s, k⟩⟩ := x
        simp only [Alm.cells] at *
        go_enter Try.func18, Try.ntmps18
        go_wp2_with (first | (go_at_call 59; refine (HBO.out _ (by (repeat (first | exact Below.refl _ _ | assumption | (refine Below.alloc ?_ (by first | omega | (simp; omega) | (simp; done)) _) | (refine Below.setCell ?_ (by first | omega | (simp; omega) | (simp; done)) _) | (refine Below.drew ?_) | (refine belowN ?_ _) | (refine Below.trans ?_ (Below.mono ‹Below _ _ _› (by first | omega | (simp; omega) | (simp; done)))))))).mono ?_; rintro _ W1 ⟨rfl, hb1⟩; have hw1 : Below w.heap.size w W1 := bl2 (by (repeat (first | exact Below.refl _ _ | assumption | (refine Below.alloc ?_ (by first | omega | (simp; omega) | (simp; done)) _) | (refine Below.setCell ?_ (by first | omega | (simp; omega) | (simp; done)) _) | (refine Below.drew ?_) | (refine belowN ?_ _) | (refine Below.trans ?_ (Below.mono ‹Below _ _ _› (by first | omega | (simp; omega) | (simp; done))))))) hb1; have gs1 : Blk W1 (w.heap.size + 1) #[.int .i64 s0, .int .i64 s1] 30 := ((Blk.at_ (by simp)).alloc _).below hb1 (by first | omega | (simp; omega) | (simp; done)); have gg1 : Blk W1 (w.heap.size + 1 + 1) #[.int .i64 g0, .int .i64 g1] 30 := (Blk.at_ (by simp)).below hb1 (by first | omega | (simp; omega) | (simp; done)); have u0 := gs1.cell 0; have u1 := gs1.cell 1; have u2 := gg1.cell 0; have u3 := gg1.cell 1; simp at u0 u1 u2 u3) | (go_at_call 60; refine (HSP.out _).mono ?_; rintro _ W2 ⟨rfl, hb2⟩; have hw2 := bl2 hw1 hb2; have gs2 := gs1.below hb2 gs1.lt; have gg2 := gg1.below hb2 gg1.lt; have r0 := gs2.cell 0; have r1 := gs2.cell 1; have r2 := gg2.cell 0; have r3 := gg2.cell 1; simp at r0 r1 r2 r3) | (go_at_call 61; (with_reducible refine (HWI.out _).mono ?_); rintro _ _ ⟨rfl, rfl⟩))
        refine bodyPost_ret (v := .tuple #[.slice none 0 0, .int .i64 3]) (by simp [results, Try.results18, go_sem]) rfl ?_
        rw [HT.out]
        exact retSlE_nil hw2
      · have d1 : decide (g0 < 1) = false := by simpa using b1
        have e1 : decide (1 ≤ g0) = true := by simp; omega
        rw [e1] at hok2
        by_cases b2 : g1 < g0
        · have d2 : decide (g1 < g0) = true := by simpa using b2
          have HWI := HSP
          clear hok2
          clear hd e1 hv hc hr
          obtain ⟨A, c, l, ⟨e, b, u⟩, ⟨d, p, f, m, y, s, k⟩⟩ := x
          simp only [Alm.cells] at *
          go_enter Try.func18, Try.ntmps18
          go_wp2_with (first | (go_at_call 59; refine (HBO.out _ (by (repeat (first | exact Below.refl _ _ | assumption | (refine Below.alloc ?_ (by first | omega | (simp; omega) | (simp; done)) _) | (refine Below.setCell ?_ (by first | omega | (simp; omega) | (simp; done)) _) | (refine Below.drew ?_) | (refine belowN ?_ _) | (refine Below.trans ?_ (Below.mono ‹Below _ _ _› (by first | omega | (simp; omega) | (simp; done)))))))).mono ?_; rintro _ W1 ⟨rfl, hb1⟩; have hw1 : Below w.heap.size w W1 := bl2 (by (repeat (first | exact Below.refl _ _ | assumption | (refine Below.alloc ?_ (by first | omega | (simp; omega) | (simp; done)) _) | (refine Below.setCell ?_ (by first | omega | (simp; omega) | (simp; done)) _) | (refine Below.drew ?_) | (refine belowN ?_ _) | (refine Below.trans ?_ (Below.mono ‹Below _ _ _› (by first | omega | (simp; omega) | (simp; done))))))) hb1; have gs1 : Blk W1 (w.heap.size + 1) #[.int .i64 s0, .int .i64 s1] 30 := ((Blk.at_ (by simp)).alloc _).below hb1 (by first | omega | (simp; omega) | (simp; done)); have gg1 : Blk W1 (w.heap.size + 1 + 1) #[.int .i64 g0, .int .i64 g1] 30 := (Blk.at_ (by simp)).below hb1 (by first | omega | (simp; omega) | (simp; done)); have u0 := gs1.cell 0; have u1 := gs1.cell 1; have u2 := gg1.cell 0; have u3 := gg1.cell 1; simp at u0 u1 u2 u3) | (go_at_call 60; refine (HSP.out _).mono ?_; rintro _ W2 ⟨rfl, hb2⟩; have hw2 := bl2 hw1 hb2; have gs2 := gs1.below hb2 gs1.lt; have gg2 := gg1.below hb2 gg1.lt; have r0 := gs2.cell 0; have r1 := gs2.cell 1; have r2 := gg2.cell 0; have r3 := gg2.cell 1; simp at r0 r1 r2 r3) | (go_at_call 61; (with_reducible refine (HWI.out _).mono ?_); rintro _ _ ⟨rfl, rfl⟩))
          refine bodyPost_ret (v := .tuple #[.slice none 0 0, .int .i64 3]) (by simp [results, Try.results18, go_sem]) rfl ?_
          rw [HT.out]
          exact retSlE_nil hw2
        · have d2 : decide (g1 < g0) = false := by simpa using b2
          have e2 : decide (g0 ≤ g1) = true := by simp; omega
          rw [e2] at hok2
          by_cases b3 : 4000 < g1
          · have d3 : decide (4000 < g1) = true := by simpa using b3
            have HWI := HSP
            clear hok2
            clear hd e1 e2 hv hc hr
            obtain ⟨A, c, l, ⟨e, b, u⟩, ⟨d, p, f, m, y, s, k⟩⟩ := x
            simp only [Alm.cells] at *
            go_enter Try.func18, Try.ntmps18
            go_wp2_with (first | (go_at_call 59; refine (HBO.out _ (by (repeat (first | exact Below.refl _ _ | assumption | (refine Below.alloc ?_ (by first | omega | (simp; omega) | (simp; done)) _) | (refine Below.setCell ?_ (by first | omega | (simp; omega) | (simp; done)) _) | (refine Below.drew ?_) | (refine belowN ?_ _) | (refine Below.trans ?_ (Below.mono ‹Below _ _ _› (by first | omega | (simp; omega) | (simp; done)))))))).mono ?_; rintro _ W1 ⟨rfl, hb1⟩; have hw1 : Below w.heap.size w W1 := bl2 (by (repeat (first | exact Below.refl _ _ | assumption | (refine Below.alloc ?_ (by first | omega | (simp; omega) | (simp; done)) _) | (refine Below.setCell ?_ (by first | omega | (simp; omega) | (simp; done)) _) | (refine Below.drew ?_) | (refine belowN ?_ _) | (refine Below.trans ?_ (Below.mono ‹Below _ _ _› (by first | omega | (simp; omega) | (simp; done))))))) hb1; have gs1 : Blk W1 (w.heap.size + 1) #[.int .i64 s0, .int .i64 s1] 30 := ((Blk.at_ (by simp)).alloc _).below hb1 (by first | omega | (simp; omega) | (simp; done)); have gg1 : Blk W1 (w.heap.size + 1 + 1) #[.int .i64 g0, .int .i64 g1] 30 := (Blk.at_ (by simp)).below hb1 (by first | omega | (simp; omega) | (simp; done)); have u0 := gs1.cell 0; have u1 := gs1.cell 1; have u2 := gg1.cell 0; have u3 := gg1.cell 1; simp at u0 u1 u2 u3) | (go_at_call 60; refine (HSP.out _).mono ?_; rintro _ W2 ⟨rfl, hb2⟩; have hw2 := bl2 hw1 hb2; have gs2 := gs1.below hb2 gs1.lt; have gg2 := gg1.below hb2 gg1.lt; have r0 := gs2.cell 0; have r1 := gs2.cell 1; have r2 := gg2.cell 0; have r3 := gg2.cell 1; simp at r0 r1 r2 r3) | (go_at_call 61; (with_reducible refine (HWI.out _).mono ?_); rintro _ _ ⟨rfl, rfl⟩))
            refine bodyPost_ret (v := .tuple #[.slice none 0 0, .int .i64 3]) (by simp [results, Try.results18, go_sem]) rfl ?_
            rw [HT.out]
            exact retSlE_nil hw2
          · have d3 : decide (4000 < g1) = false := by simpa using b3
            have e3 : decide (g1 ≤ 4000) = true := by simp; omega
            rw [e3] at hok2
            simp only [Bool.true_and] at hok2
            have HWI := Lib.hid (fun W => within_val hok2 W)
            clear hd e1 e2 e3 hok2 hv hc hr
            obtain ⟨A, c, l, ⟨e, b, u⟩, ⟨d, p, f, m, y, s, k⟩⟩ := x
            simp only [Alm.cells] at *
            go_enter Try.func18, Try.ntmps18
            go_wp2_with (first | (go_at_call 59; refine (HBO.out _ (by (repeat (first | exact Below.refl _ _ | assumption | (refine Below.alloc ?_ (by first | omega | (simp; omega) | (simp; done)) _) | (refine Below.setCell ?_ (by first | omega | (simp; omega) | (simp; done)) _) | (refine Below.drew ?_) | (refine belowN ?_ _) | (refine Below.trans ?_ (Below.mono ‹Below _ _ _› (by first | omega | (simp; omega) | (simp; done)))))))).mono ?_; rintro _ W1 ⟨rfl, hb1⟩; have hw1 : Below w.heap.size w W1 := bl2 (by (repeat (first | exact Below.refl _ _ | assumption | (refine Below.alloc ?_ (by first | omega | (simp; omega) | (simp; done)) _) | (refine Below.setCell ?_ (by first | omega | (simp; omega) | (simp; done)) _) | (refine Below.drew ?_) | (refine belowN ?_ _) | (refine Below.trans ?_ (Below.mono ‹Below _ _ _› (by first | omega | (simp; omega) | (simp; done))))))) hb1; have gs1 : Blk W1 (w.heap.size + 1) #[.int .i64 s0, .int .i64 s1] 30 := ((Blk.at_ (by simp)).alloc _).below hb1 (by first | omega | (simp; omega) | (simp; done)); have gg1 : Blk W1 (w.heap.size + 1 + 1) #[.int .i64 g0, .int .i64 g1] 30 := (Blk.at_ (by simp)).below hb1 (by first | omega | (simp; omega) | (simp; done)); have u0 := gs1.cell 0; have u1 := gs1.cell 1; have u2 := gg1.cell 0; have u3 := gg1.cell 1; simp at u0 u1 u2 u3) | (go_at_call 60; refine (HSP.out _).mono ?_; rintro _ W2 ⟨rfl, hb2⟩; have hw2 := bl2 hw1 hb2; have gs2 := gs1.below hb2 gs1.lt; have gg2 := gg1.below hb2 gg1.lt; have r0 := gs2.cell 0; have r1 := gs2.cell 1; have r2 := gg2.cell 0; have r3 := gg2.cell 1; simp at r0 r1 r2 r3) | (go_at_call 61; (with_reducible refine (HWI.out _).mono ?_); rintro _ _ ⟨rfl, rfl⟩))
            refine bodyPost_ret (v := .tuple #[.slice none 0 0, .int .i64 3]) (by simp [results, Try.results18, go_sem]) rfl ?_
            rw [HT.out]
            exact retSlE_nil hw2
  · have hne : (v != 0) = true := by simpa using h0
    have HT : Hid (planR x rs s0 s1 g0 g1 T = ([], v)) := (by unfold planR; rw [← hv, if_neg h0] : planR x rs s0 s1 g0 g1 T = _)
    clear hv hc hr hbad
    obtain ⟨A, c, l, ⟨e, b, u⟩, ⟨d, p, f, m, y, s, k⟩⟩ := x
    simp only [Alm.cells] at *
    go_enter Try.func18, Try.ntmps18
    go_wp2_with (go_at_call 59; refine (HBO.out _ (by (repeat (first | exact Below.refl _ _ | assumption | (refine Below.alloc ?_ (by first | omega | (simp; omega) | (simp; done)) _) | (refine Below.setCell ?_ (by first | omega | (simp; omega) | (simp; done)) _) | (refine Below.drew ?_) | (refine belowN ?_ _) | (refine Below.trans ?_ (Below.mono ‹Below _ _ _› (by first | omega | (simp; omega) | (simp; done)))))))).mono ?_; rintro _ W1 ⟨rfl, hb1⟩; have hw1 : Below w.heap.size w W1 := bl2 (by (repeat (first | exact Below.refl _ _ | assumption | (refine Below.alloc ?_ (by first | omega | (simp; omega) | (simp; done)) _) | (refine Below.setCell ?_ (by first | omega | (simp; omega) | (simp; done)) _) | (refine Below.drew ?_) | (refine belowN ?_ _) | (refine Below.trans ?_ (Below.mono ‹Below _ _ _› (by first | omega | (simp; omega) | (simp; done))))))) hb1)
    refine bodyPost_ret (v := .tuple #[.slice none 0 0, .int .i64 v]) (by simp [results, Try.results18, go_sem]) rfl ?_
    rw [HT.out]
    exact retSlE_nil hw1
end Go.Proofs.Ytfbnllmmoaialaa

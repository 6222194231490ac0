/- almanac: Plan's errors; whether a day is as far as it may be. -/
import Derived.Test.YtfbnllmmoaialaaGreatZ16Bb
namespace Go.Proofs.YtfbnllmmoaialaaGreat
open Go.RowKit

theorem ent_plan1 : Ent 44 := ent_of (fn := Tryz.f44) (by kernel_rfl) (by kernel_rfl) (by kernel_rfl)
set_option maxRecDepth 100000 in
set_option maxHeartbeats 1000000 in
theorem plan1_any (lb gb : Nat) (A : Option Addr) (c : Nat) (L : List Int) (g0 g1 : Int) (i k : Nat) (w : World) (hi : i < L.length) (hk : k < L.length) (hbd : ∀ d ∈ L, 0 ≤ d ∧ d ≤ 1000000)
    (hl : Blk w lb #[.slice A L.length c] 42) (hs : Sl intCell 1 w w.heap.size A L) (hg : Blk w gb #[.int .i64 g0, .int .i64 g1] 67) :
    Calls Tryz.prog 44 #[.int .i64 (i : Int), .int .i64 (k : Int), .pointer (some ⟨lb, 0, none⟩), .pointer (some ⟨gb, 0, none⟩)] w fun e w' => e = .returned (.bool (inB (L[k] - L[i]) g0 g1)) ∧ Below w.heap.size w w' := by
  obtain ⟨ab, ao, rfl, hblk, ci⟩ := hs.int_at hi
  obtain ⟨ab2, ao2, e2, _, ck⟩ := hs.int_at hk
  have e3 : ab2 = ab := by simpa using (congrArg (fun a => (a.getD ⟨0, 0, none⟩).block) e2).symm
  have e4 : ao2 = ao := by simpa using (congrArg (fun a => (a.getD ⟨0, 0, none⟩).off) e2).symm
  subst e3 e4
  have hq1 := hbd _ (List.getElem_mem hi)
  have hq2 := hbd _ (List.getElem_mem hk)
  obtain ⟨x, hx⟩ : ∃ x, x = L[i] := ⟨_, rfl⟩
  obtain ⟨y, hy⟩ : ∃ y, y = L[k] := ⟨_, rfl⟩
  rw [← hx] at ci hq1 ⊢
  rw [← hy] at ck hq2 ⊢
  have v1 : IntKind.i64.wrap (y - x) = y - x := IntWalk.i64_in _ ⟨by omega, by omega⟩
  obtain ⟨n, hn⟩ : ∃ n, n = L.length := ⟨_, rfl⟩
  rw [← hn] at hl hi hk
  have c0 := hl.cell 0; have q0 := hg.cell 0; have q1 := hg.cell 1
  simp at c0 q0 q1
  have i0 : (0 : Int) ≤ (i : Int) := by omega
  have i1 : (i : Int) < (n : Int) := by omega
  have k0 : (0 : Int) ≤ (k : Int) := by omega
  have k1 : (k : Int) < (n : Int) := by omega
  have HW := Lib.hid (fun W => within_any (y - x) g0 g1 W)
  clear hx hy hn hl hg hbd hs e2
  go_enter Tryz.func44, Tryz.ntmps44
  go_upto_region 1 with fail
  (refine wp_region_ext (by kernel_rfl) (by kernel_rfl) ?_; (repeat (go_big_quiet_step((go_at_call 35; exact Calls.ext_same (HW.out _))))); with_reducible refine wpQuiet_nil ?_; intro w1 hw1; have hb1 := ext_below hw1; clear hw1)
  go_wp2
  go_ret
  exact ⟨rfl, hb1⟩
theorem planR_bad {x : Alm} {rs : List DRl} {s0 s1 g0 g1 T : Int} (h : bothE x rs = 0) (hk : okP s0 s1 g0 g1 T = false) : planR x rs s0 s1 g0 g1 T = ([], 3) := by
  unfold planR; rw [if_pos h, hk]; rfl
set_option maxRecDepth 100000 in
set_option maxHeartbeats 4000000 in
theorem plan_err (x : Alm) (A2 : Option Addr) (c2 : Nat) (rs : List DRl) (s0 s1 g0 g1 T : Int) (w : World) (hl : x.cycles.length ≤ 1000000) (hc : Sl Cyc.cells 2 w w.heap.size x.a x.cycles) (hr : RlsAt w w.heap.size A2 rs) (hbad : ¬ (bothE x rs = 0 ∧ okP s0 s1 g0 g1 T = true)) :
    Calls Tryz.prog 21 #[.agg x.cells.toArray, .slice A2 rs.length c2, .agg #[.int .i64 s0, .int .i64 s1], .agg #[.int .i64 g0, .int .i64 g1], .int .i64 T] w (RetSlE (planR x rs s0 s1 g0 g1 T).1 (planR x rs s0 s1 g0 g1 T).2 w) := by
  obtain ⟨v, hv⟩ : ∃ v, v = bothE x rs := ⟨_, rfl⟩
  have HBO := Lib.hid (fun W (hW : Below w.heap.size w W) => both_val (A2 := A2) (c2 := c2) hv.symm W hl ((hc.below hW).more hW.size) ((hr.below hW).more hW.size))
  by_cases h0 : v = 0
  · subst h0
    have hok : okP s0 s1 g0 g1 T = false := by
      cases h : okP s0 s1 g0 g1 T with
      | false => rfl
      | true => exact absurd ⟨hv.symm, h⟩ hbad
    have HT := Lib.hid (planR_bad hv.symm hok)
    have hok2 := hok
    unfold okP at hok2
    clear hbad hok
    cases hd : spanB s0 s1 with
    | false =>
      have HSP := Lib.hid (fun W => isSpan_val hd W)
      have HWI := HSP
      clear hok2
      clear hd hv hc hr
      obtain ⟨A, c, l, ⟨e, b, u⟩, ⟨d, p, f, m, y, s, k⟩⟩ := x
      simp only [Alm.cells] at *
      go_enter Tryz.func21, Tryz.ntmps21
      go_wp2_with (first | (go_at_call 23; refine (HBO.out _ (by (repeat (first | exact Below.refl _ _ | assumption | (refine Below.alloc ?_ (by first | omega | (simp; omega) | (simp; done)) _) | (refine Below.setCell ?_ (by first | omega | (simp; omega) | (simp; done)) _) | (refine Below.drew ?_) | (refine belowN ?_ _) | (refine Below.trans ?_ (Below.mono ‹Below _ _ _› (by first | omega | (simp; omega) | (simp; done)))))))).mono ?_; rintro _ W1 ⟨rfl, hb1⟩; have hw1 : Below w.heap.size w W1 := bl2 (by (repeat (first | exact Below.refl _ _ | assumption | (refine Below.alloc ?_ (by first | omega | (simp; omega) | (simp; done)) _) | (refine Below.setCell ?_ (by first | omega | (simp; omega) | (simp; done)) _) | (refine Below.drew ?_) | (refine belowN ?_ _) | (refine Below.trans ?_ (Below.mono ‹Below _ _ _› (by first | omega | (simp; omega) | (simp; done))))))) hb1; have gs1 : Blk W1 (w.heap.size + 1) #[.int .i64 s0, .int .i64 s1] 67 := ((Blk.at_ (by simp)).alloc _).below hb1 (by first | omega | (simp; omega) | (simp; done)); have gg1 : Blk W1 (w.heap.size + 1 + 1) #[.int .i64 g0, .int .i64 g1] 67 := (Blk.at_ (by simp)).below hb1 (by first | omega | (simp; omega) | (simp; done)); have u0 := gs1.cell 0; have u1 := gs1.cell 1; have u2 := gg1.cell 0; have u3 := gg1.cell 1; simp at u0 u1 u2 u3) | (go_at_call 24; refine (HSP.out _).mono ?_; rintro _ W2 ⟨rfl, hb2⟩; have hw2 := bl2 hw1 hb2; have gs2 := gs1.below hb2 gs1.lt; have gg2 := gg1.below hb2 gg1.lt; have r0 := gs2.cell 0; have r1 := gs2.cell 1; have r2 := gg2.cell 0; have r3 := gg2.cell 1; simp at r0 r1 r2 r3) | (go_at_call 35; (with_reducible refine (HWI.out _).mono ?_); rintro _ _ ⟨rfl, rfl⟩))
      refine bodyPost_ret (v := .tuple #[.slice none 0 0, .int .i64 3]) (by simp [results, Tryz.results21, go_sem]) rfl ?_
      rw [HT.out]
      exact retSlE_nil hw2
    | true =>
      have HSP := Lib.hid (fun W => isSpan_val hd W)
      rw [hd] at hok2
      by_cases b1 : g0 < 1
      · have d1 : decide (g0 < 1) = true := by simpa using b1
        have HWI := HSP
        clear hok2
        clear hd hv hc hr
        obtain ⟨A, c, l, ⟨e, b, u⟩, ⟨d, p, f, m, y, s, k⟩⟩ := x
        simp only [Alm.cells] at *
        go_enter Tryz.func21, Tryz.ntmps21
        go_wp2_with (first | (go_at_call 23; refine (HBO.out _ (by (repeat (first | exact Below.refl _ _ | assumption | (refine Below.alloc ?_ (by first | omega | (simp; omega) | (simp; done)) _) | (refine Below.setCell ?_ (by first | omega | (simp; omega) | (simp; done)) _) | (refine Below.drew ?_) | (refine belowN ?_ _) | (refine Below.trans ?_ (Below.mono ‹Below _ _ _› (by first | omega | (simp; omega) | (simp; done)))))))).mono ?_; rintro _ W1 ⟨rfl, hb1⟩; have hw1 : Below w.heap.size w W1 := bl2 (by (repeat (first | exact Below.refl _ _ | assumption | (refine Below.alloc ?_ (by first | omega | (simp; omega) | (simp; done)) _) | (refine Below.setCell ?_ (by first | omega | (simp; omega) | (simp; done)) _) | (refine Below.drew ?_) | (refine belowN ?_ _) | (refine Below.trans ?_ (Below.mono ‹Below _ _ _› (by first | omega | (simp; omega) | (simp; done))))))) hb1; have gs1 : Blk W1 (w.heap.size + 1) #[.int .i64 s0, .int .i64 s1] 67 := ((Blk.at_ (by simp)).alloc _).below hb1 (by first | omega | (simp; omega) | (simp; done)); have gg1 : Blk W1 (w.heap.size + 1 + 1) #[.int .i64 g0, .int .i64 g1] 67 := (Blk.at_ (by simp)).below hb1 (by first | omega | (simp; omega) | (simp; done)); have u0 := gs1.cell 0; have u1 := gs1.cell 1; have u2 := gg1.cell 0; have u3 := gg1.cell 1; simp at u0 u1 u2 u3) | (go_at_call 24; refine (HSP.out _).mono ?_; rintro _ W2 ⟨rfl, hb2⟩; have hw2 := bl2 hw1 hb2; have gs2 := gs1.below hb2 gs1.lt; have gg2 := gg1.below hb2 gg1.lt; have r0 := gs2.cell 0; have r1 := gs2.cell 1; have r2 := gg2.cell 0; have r3 := gg2.cell 1; simp at r0 r1 r2 r3) | (go_at_call 35; (with_reducible refine (HWI.out _).mono ?_); rintro _ _ ⟨rfl, rfl⟩))
        refine bodyPost_ret (v := .tuple #[.slice none 0 0, .int .i64 3]) (by simp [results, Tryz.results21, go_sem]) rfl ?_
        rw [HT.out]
        exact retSlE_nil hw2
      · have d1 : decide (g0 < 1) = false := by simpa using b1
        have e1 : decide (1 ≤ g0) = true := by simp; omega
        rw [e1] at hok2
        by_cases b2 : g1 < g0
        · have d2 : decide (g1 < g0) = true := by simpa using b2
          have HWI := HSP
          clear hok2
          clear hd e1 hv hc hr
          obtain ⟨A, c, l, ⟨e, b, u⟩, ⟨d, p, f, m, y, s, k⟩⟩ := x
          simp only [Alm.cells] at *
          go_enter Tryz.func21, Tryz.ntmps21
          go_wp2_with (first | (go_at_call 23; refine (HBO.out _ (by (repeat (first | exact Below.refl _ _ | assumption | (refine Below.alloc ?_ (by first | omega | (simp; omega) | (simp; done)) _) | (refine Below.setCell ?_ (by first | omega | (simp; omega) | (simp; done)) _) | (refine Below.drew ?_) | (refine belowN ?_ _) | (refine Below.trans ?_ (Below.mono ‹Below _ _ _› (by first | omega | (simp; omega) | (simp; done)))))))).mono ?_; rintro _ W1 ⟨rfl, hb1⟩; have hw1 : Below w.heap.size w W1 := bl2 (by (repeat (first | exact Below.refl _ _ | assumption | (refine Below.alloc ?_ (by first | omega | (simp; omega) | (simp; done)) _) | (refine Below.setCell ?_ (by first | omega | (simp; omega) | (simp; done)) _) | (refine Below.drew ?_) | (refine belowN ?_ _) | (refine Below.trans ?_ (Below.mono ‹Below _ _ _› (by first | omega | (simp; omega) | (simp; done))))))) hb1; have gs1 : Blk W1 (w.heap.size + 1) #[.int .i64 s0, .int .i64 s1] 67 := ((Blk.at_ (by simp)).alloc _).below hb1 (by first | omega | (simp; omega) | (simp; done)); have gg1 : Blk W1 (w.heap.size + 1 + 1) #[.int .i64 g0, .int .i64 g1] 67 := (Blk.at_ (by simp)).below hb1 (by first | omega | (simp; omega) | (simp; done)); have u0 := gs1.cell 0; have u1 := gs1.cell 1; have u2 := gg1.cell 0; have u3 := gg1.cell 1; simp at u0 u1 u2 u3) | (go_at_call 24; refine (HSP.out _).mono ?_; rintro _ W2 ⟨rfl, hb2⟩; have hw2 := bl2 hw1 hb2; have gs2 := gs1.below hb2 gs1.lt; have gg2 := gg1.below hb2 gg1.lt; have r0 := gs2.cell 0; have r1 := gs2.cell 1; have r2 := gg2.cell 0; have r3 := gg2.cell 1; simp at r0 r1 r2 r3) | (go_at_call 35; (with_reducible refine (HWI.out _).mono ?_); rintro _ _ ⟨rfl, rfl⟩))
          refine bodyPost_ret (v := .tuple #[.slice none 0 0, .int .i64 3]) (by simp [results, Tryz.results21, go_sem]) rfl ?_
          rw [HT.out]
          exact retSlE_nil hw2
        · have d2 : decide (g1 < g0) = false := by simpa using b2
          have e2 : decide (g0 ≤ g1) = true := by simp; omega
          rw [e2] at hok2
          by_cases b3 : 4000 < g1
          · have d3 : decide (4000 < g1) = true := by simpa using b3
            have HWI := HSP
            clear hok2
            clear hd e1 e2 hv hc hr
            obtain ⟨A, c, l, ⟨e, b, u⟩, ⟨d, p, f, m, y, s, k⟩⟩ := x
            simp only [Alm.cells] at *
            go_enter Tryz.func21, Tryz.ntmps21
            go_wp2_with (first | (go_at_call 23; refine (HBO.out _ (by (repeat (first | exact Below.refl _ _ | assumption | (refine Below.alloc ?_ (by first | omega | (simp; omega) | (simp; done)) _) | (refine Below.setCell ?_ (by first | omega | (simp; omega) | (simp; done)) _) | (refine Below.drew ?_) | (refine belowN ?_ _) | (refine Below.trans ?_ (Below.mono ‹Below _ _ _› (by first | omega | (simp; omega) | (simp; done)))))))).mono ?_; rintro _ W1 ⟨rfl, hb1⟩; have hw1 : Below w.heap.size w W1 := bl2 (by (repeat (first | exact Below.refl _ _ | assumption | (refine Below.alloc ?_ (by first | omega | (simp; omega) | (simp; done)) _) | (refine Below.setCell ?_ (by first | omega | (simp; omega) | (simp; done)) _) | (refine Below.drew ?_) | (refine belowN ?_ _) | (refine Below.trans ?_ (Below.mono ‹Below _ _ _› (by first | omega | (simp; omega) | (simp; done))))))) hb1; have gs1 : Blk W1 (w.heap.size + 1) #[.int .i64 s0, .int .i64 s1] 67 := ((Blk.at_ (by simp)).alloc _).below hb1 (by first | omega | (simp; omega) | (simp; done)); have gg1 : Blk W1 (w.heap.size + 1 + 1) #[.int .i64 g0, .int .i64 g1] 67 := (Blk.at_ (by simp)).below hb1 (by first | omega | (simp; omega) | (simp; done)); have u0 := gs1.cell 0; have u1 := gs1.cell 1; have u2 := gg1.cell 0; have u3 := gg1.cell 1; simp at u0 u1 u2 u3) | (go_at_call 24; refine (HSP.out _).mono ?_; rintro _ W2 ⟨rfl, hb2⟩; have hw2 := bl2 hw1 hb2; have gs2 := gs1.below hb2 gs1.lt; have gg2 := gg1.below hb2 gg1.lt; have r0 := gs2.cell 0; have r1 := gs2.cell 1; have r2 := gg2.cell 0; have r3 := gg2.cell 1; simp at r0 r1 r2 r3) | (go_at_call 35; (with_reducible refine (HWI.out _).mono ?_); rintro _ _ ⟨rfl, rfl⟩))
            refine bodyPost_ret (v := .tuple #[.slice none 0 0, .int .i64 3]) (by simp [results, Tryz.results21, go_sem]) rfl ?_
            rw [HT.out]
            exact retSlE_nil hw2
          · have d3 : decide (4000 < g1) = false := by simpa using b3
            have e3 : decide (g1 ≤ 4000) = true := by simp; omega
            rw [e3] at hok2
            simp only [Bool.true_and] at hok2
            have HWI := Lib.hid (fun W => within_val hok2 W)
            clear hd e1 e2 e3 hok2 hv hc hr
            obtain ⟨A, c, l, ⟨e, b, u⟩, ⟨d, p, f, m, y, s, k⟩⟩ := x
            simp only [Alm.cells] at *
            go_enter Tryz.func21, Tryz.ntmps21
            go_wp2_with (first | (go_at_call 23; refine (HBO.out _ (by (repeat (first | exact Below.refl _ _ | assumption | (refine Below.alloc ?_ (by first | omega | (simp; omega) | (simp; done)) _) | (refine Below.setCell ?_ (by first | omega | (simp; omega) | (simp; done)) _) | (refine Below.drew ?_) | (refine belowN ?_ _) | (refine Below.trans ?_ (Below.mono ‹Below _ _ _› (by first | omega | (simp; omega) | (simp; done)))))))).mono ?_; rintro _ W1 ⟨rfl, hb1⟩; have hw1 : Below w.heap.size w W1 := bl2 (by (repeat (first | exact Below.refl _ _ | assumption | (refine Below.alloc ?_ (by first | omega | (simp; omega) | (simp; done)) _) | (refine Below.setCell ?_ (by first | omega | (simp; omega) | (simp; done)) _) | (refine Below.drew ?_) | (refine belowN ?_ _) | (refine Below.trans ?_ (Below.mono ‹Below _ _ _› (by first | omega | (simp; omega) | (simp; done))))))) hb1; have gs1 : Blk W1 (w.heap.size + 1) #[.int .i64 s0, .int .i64 s1] 67 := ((Blk.at_ (by simp)).alloc _).below hb1 (by first | omega | (simp; omega) | (simp; done)); have gg1 : Blk W1 (w.heap.size + 1 + 1) #[.int .i64 g0, .int .i64 g1] 67 := (Blk.at_ (by simp)).below hb1 (by first | omega | (simp; omega) | (simp; done)); have u0 := gs1.cell 0; have u1 := gs1.cell 1; have u2 := gg1.cell 0; have u3 := gg1.cell 1; simp at u0 u1 u2 u3) | (go_at_call 24; refine (HSP.out _).mono ?_; rintro _ W2 ⟨rfl, hb2⟩; have hw2 := bl2 hw1 hb2; have gs2 := gs1.below hb2 gs1.lt; have gg2 := gg1.below hb2 gg1.lt; have r0 := gs2.cell 0; have r1 := gs2.cell 1; have r2 := gg2.cell 0; have r3 := gg2.cell 1; simp at r0 r1 r2 r3) | (go_at_call 35; (with_reducible refine (HWI.out _).mono ?_); rintro _ _ ⟨rfl, rfl⟩))
            refine bodyPost_ret (v := .tuple #[.slice none 0 0, .int .i64 3]) (by simp [results, Tryz.results21, go_sem]) rfl ?_
            rw [HT.out]
            exact retSlE_nil hw2
  · have hne : (v != 0) = true := by simpa using h0
    have HT : Hid (planR x rs s0 s1 g0 g1 T = ([], v)) := (by unfold planR; rw [← hv, if_neg h0] : planR x rs s0 s1 g0 g1 T = _)
    clear hv hc hr hbad
    obtain ⟨A, c, l, ⟨e, b, u⟩, ⟨d, p, f, m, y, s, k⟩⟩ := x
    simp only [Alm.cells] at *
    go_enter Tryz.func21, Tryz.ntmps21
    go_wp2_with (go_at_call 23; refine (HBO.out _ (by (repeat (first | exact Below.refl _ _ | assumption | (refine Below.alloc ?_ (by first | omega | (simp; omega) | (simp; done)) _) | (refine Below.setCell ?_ (by first | omega | (simp; omega) | (simp; done)) _) | (refine Below.drew ?_) | (refine belowN ?_ _) | (refine Below.trans ?_ (Below.mono ‹Below _ _ _› (by first | omega | (simp; omega) | (simp; done)))))))).mono ?_; rintro _ W1 ⟨rfl, hb1⟩; have hw1 : Below w.heap.size w W1 := bl2 (by (repeat (first | exact Below.refl _ _ | assumption | (refine Below.alloc ?_ (by first | omega | (simp; omega) | (simp; done)) _) | (refine Below.setCell ?_ (by first | omega | (simp; omega) | (simp; done)) _) | (refine Below.drew ?_) | (refine belowN ?_ _) | (refine Below.trans ?_ (Below.mono ‹Below _ _ _› (by first | omega | (simp; omega) | (simp; done))))))) hb1)
    refine bodyPost_ret (v := .tuple #[.slice none 0 0, .int .i64 v]) (by simp [results, Tryz.results21, go_sem]) rfl ?_
    rw [HT.out]
    exact retSlE_nil hw1
end Go.Proofs.YtfbnllmmoaialaaGreat

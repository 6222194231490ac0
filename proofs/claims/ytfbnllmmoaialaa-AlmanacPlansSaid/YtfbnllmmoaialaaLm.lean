/- almanac: the law AlmanacPlans returns true. -/
import Derived.Test.YtfbnllmmoaialaaZ24Pi
import Derived.Test.YtfbnllmmoaialaaZ25RfM
import Derived.Test.YtfbnllmmoaialaaRfR
import Derived.Test.YtfbnllmmoaialaaZ23RfB
namespace Go.Proofs.Ytfbnllmmoaialaa
open Go.RowKit

theorem blkND (w0 : World) (cs : Array Value) (t : TypeId) : Blk (World.drew (w0.alloc (.cells cs t))) w0.heap.size cs t := heap_alloc_new w0 _
theorem stepB {W Wc w1 : World} {b : Nat} {cs : Array Value} {t : TypeId} (g : Blk W b cs t) (h1 : Below W.heap.size W Wc) (hb : Below Wc.heap.size Wc w1) : Blk w1 b cs t := g.below (bl2 h1 hb) g.lt
theorem stepS {W Wc w1 : World} {A : Option Addr} {l : List Int} (g : Sl intCell 1 W W.heap.size A l) (h1 : Below W.heap.size W Wc) (hb : Below Wc.heap.size Wc w1) : Sl intCell 1 w1 w1.heap.size A l := (g.below (bl2 h1 hb)).more (bl2 h1 hb).size
theorem PsA.one {W : World} {bs c2 : Nat} {A2 : Option Addr} {rs : List DRl} (h : RlsAt W W.heap.size A2 rs) (hb : Blk W bs #[.slice A2 rs.length c2] 29) : PsA W W.heap.size (some ⟨bs, 0, none⟩) [⟨A2, c2, rs⟩] := by
  refine ⟨by simp, ⟨rfl, fun _ => ⟨bs, 0, rfl, hb.lt, fun j u hu => ?_⟩⟩, fun p hp => ?_⟩
  · have := hb.cell j
    rw [Nat.zero_add, this]
    simpa [flat, DPs.cells] using hu
  · simp only [List.mem_singleton] at hp; subst hp; exact h
theorem llong_val {a b : Int} {v : Bool} (h : lngB a b = v) (w : World) : Calls Try.prog 16 #[.agg #[.int .i64 a, .int .i64 b]] w fun e w' => e = .returned (.bool v) ∧ Below w.heap.size w w' := h ▸ llong_any a b w
/-- the plan by the reference -/
theorem planR_ref {x : Alm} {rs : List DRl} {s0 s1 g0 g1 T : Int} (hb : bothE x rs = 0) (ho : okP s0 s1 g0 g1 T = true) : planR x rs s0 s1 g0 g1 T = planS (refG g0 g1 (spanL x rs s0 s1) none T.toNat) := by
  obtain ⟨_, _, _, _, o5, _⟩ := okP_iff.1 ho
  unfold planR
  rw [if_pos hb, ho, refG_eq (T := T) _ _ _ (by omega)]
  rfl
theorem planR_e {x : Alm} {rs : List DRl} {s0 s1 g0 g1 T : Int} (hb : bothE x rs ≠ 0) : planR x rs s0 s1 g0 g1 T = ([], bothE x rs) := by
  unfold planR; rw [if_neg hb]
theorem planR_3 {x : Alm} {rs : List DRl} {s0 s1 g0 g1 T : Int} (hb : bothE x rs = 0) (ho : okP s0 s1 g0 g1 T = false) : planR x rs s0 s1 g0 g1 T = ([], 3) := by
  unfold planR; rw [if_pos hb, ho]; rfl
set_option maxRecDepth 100000 in
set_option maxHeartbeats 16000000 in
theorem lwplans_any (x : Alm) (A2 : Option Addr) (c2 : Nat) (rs : List DRl) (s0 s1 g0 g1 T E : Int) (P : List Int) (w : World) (hz : x.a = none → x.c = 0) (hcx : Sl Cyc.cells 2 w w.heap.size x.a x.cycles) (hr : RlsIn w A2 rs) (hlg : largeB x rs = false) (hlo : lngB s0 s1 = false) (hP : planR x rs s0 s1 g0 g1 T = (P, E)) :
    Calls Try.prog 3 #[.agg x.cells.toArray, .slice A2 rs.length c2, .agg #[.int .i64 s0, .int .i64 s1, .int .i64 g0, .int .i64 g1, .int .i64 T]] w fun en w' => en = .returned (.bool true) ∧ Below w.heap.size w w' := by
  obtain ⟨hl35, hlx, -⟩ := not_large hlg
  have hlx2 : x.cycles.length ≤ 1000000 := by omega
  have HLG := Lib.hid (fun W (hW : Below w.heap.size w W) => large_any x A2 c2 rs W ((hr.w.below hW).more hW.size))
  rw [hlg] at HLG
  have HLO := Lib.hid (fun W => llong_val hlo W)
  have HOW := Lib.hid (fun W (hW : Below w.heap.size w W) => own_any x W hz (by omega) ((hcx.below hW).more hW.size))
  have HRU := Lib.hid (fun W (hW : Below w.heap.size w W) => rules_any A2 c2 rs W ((hr.at_.below hW).more hW.size) hr.nil (by omega))
  have HPN := Lib.hid (fun A c A3 k3 l' W h1 h2 h3 => planV hP hlx2 A c A3 k3 l' W h1 h2 h3)
  have HRB := Lib.hid (fun W (hW : Below w.heap.size w W) => rboth_any x A2 c2 rs W hlx2 ((hcx.below hW).more hW.size) ((hr.at_.below hW).more hW.size))
  obtain ⟨be, hbe⟩ : ∃ v, v = bothE x rs := ⟨_, rfl⟩
  rw [← hbe] at HRB
  have HDY0 := Lib.hid (fun (hbz : be = 0) (hsp : spanB s0 s1 = true) bs W (hW : Below w.heap.size w W) (hB : Blk W bs #[.slice A2 rs.length c2] 29) => by
    obtain ⟨⟨q1, q2⟩, ⟨q3, q4⟩, q5, q6⟩ := spanB_iff.1 hsp
    have hb0 := bothE_zero (hbe.symm.trans hbz)
    have hh : Calls Try.prog 24 #[.agg x.cells.toArray, .slice (some ⟨bs, 0, none⟩) 1 1, .int .i64 s0, .int .i64 s1] W fun e w' => ∃ A c, e = .returned (.slice A (spanL x rs s0 s1).length c) ∧ Sl intCell 1 w' w'.heap.size A (spanL x rs s0 s1) ∧ (A = none → c = 0) ∧ Below W.heap.size W w' := rdays_any x (some ⟨bs, 0, none⟩) 1 [⟨A2, c2, rs⟩] s0 s1 W hb0.1 q1 q4 (by omega) q6 (fun p hp r hr => by simp only [List.mem_singleton] at hp; subst hp; exact hb0.2.2 r hr) ((hcx.below hW).more hW.size) (PsA.one ((hr.at_.below hW).more hW.size) hB)
    exact hh)
  obtain ⟨L, hL⟩ : ∃ L, L = spanL x rs s0 s1 := ⟨_, rfl⟩
  rw [← hL] at HDY0
  have hlL : spanB s0 s1 = true → L.length ≤ 4001 := fun hsp => by
    obtain ⟨⟨q1, q2⟩, ⟨q3, q4⟩, q5, q6⟩ := spanB_iff.1 hsp
    rw [hL]; exact Nat.le_trans (daysL_len x _ s0 s1) (by omega)
  have hbL : spanB s0 s1 = true → ∀ d ∈ L, 0 ≤ d ∧ d ≤ 1000000 := fun hsp d hd => by
    obtain ⟨⟨q1, q2⟩, ⟨q3, q4⟩, q5, q6⟩ := spanB_iff.1 hsp
    rw [hL] at hd
    have := daysL_bd x _ s0 s1 d hd
    omega
  have HBL := Lib.hid hbL; have HLL := Lib.hid hlL
  have HPE : Hid (be ≠ 0 → P = [] ∧ E = be) := (fun h => by rw [planR_e (by rw [← hbe]; exact h), ← hbe] at hP; cases hP; exact ⟨rfl, rfl⟩ : be ≠ 0 → P = [] ∧ E = be)
  have HP3 : Hid (be = 0 → okP s0 s1 g0 g1 T = false → P = [] ∧ E = 3) := (fun h h2 => by rw [planR_3 (by rw [← hbe]; exact h) h2] at hP; cases hP; exact ⟨rfl, rfl⟩ : be = 0 → okP s0 s1 g0 g1 T = false → P = [] ∧ E = 3)
  have HPK : Hid (be = 0 → okP s0 s1 g0 g1 T = true → planS (refG g0 g1 L none T.toNat) = (P, E)) := (fun h h2 => by rw [hL, ← planR_ref (by rw [← hbe]; exact h) h2]; exact hP : be = 0 → okP s0 s1 g0 g1 T = true → planS (refG g0 g1 L none T.toNat) = (P, E))
  have hP60 : Hid (P.length ≤ 1000000) := (by
    have h := HPK.out
    by_cases hb0 : be = 0
    · cases ho : okP s0 s1 g0 g1 T with
      | false => rw [(HP3.out hb0 ho).1]; simp
      | true =>
        obtain ⟨_, _, _, _, o5, o6⟩ := okP_iff.1 ho
        have h2 := h hb0 ho
        rw [refG_eq (T := T) L none T.toNat (by omega)] at h2
        cases hg : greedy g0 g1 (L.zip (cnts g0 g1 T L)) none T.toNat with
        | none => rw [hg] at h2; simp [planS] at h2; rw [h2.1]; simp
        | some p =>
          rw [hg] at h2
          simp only [planS, Prod.mk.injEq] at h2
          rw [← h2.1]
          have := (greedy_spec (g0 := g0) (g1 := g1) (T := T) L none T.toNat (by omega) (by rw [hL]; exact spanL_sorted x rs s0 s1)).1 p hg
          rw [this.2.1]; omega
    · rw [(HPE.out hb0).1]; simp : P.length ≤ 1000000)
  clear hr hcx hlg hP hlx hlx2 hbe hL hlL hbL hlo
  obtain ⟨A, c, l, ⟨e, b, u⟩, ⟨d, p, f, m, y, s, k⟩⟩ := x
  simp only [Alm.cells] at *
  go_enter Try.func3, Try.ntmps3
  go_upto_region 1 with fail
  refine gen_w (fun W => Blk W w.heap.size #[.slice A l.length c, .int .i64 e, .int .i64 b, .int .i64 u, .int .i64 d, .int .i64 p, .int .i64 f, .int .i64 m, .int .i64 y, .int .i64 s, .int .i64 k] 28 ∧ Blk W (w.heap.size + 1) #[.int .i64 s0, .int .i64 s1, .int .i64 g0, .int .i64 g1, .int .i64 T] 32 ∧ Below w.heap.size w W) ⟨(Blk.at_ rfl).alloc _, Blk.at_ (by simp), by (repeat (first | exact Below.refl _ _ | assumption | (refine Below.alloc ?_ (by first | omega | (simp; omega) | (simp; done)) _) | (refine Below.setCell ?_ (by first | omega | (simp; omega) | (simp; done)) _) | (refine Below.drew ?_) | (refine belowN ?_ _) | (refine Below.trans ?_ (Below.mono ‹Below _ _ _› (by first | omega | (simp; omega) | (simp; done))))))⟩ ?_
  rintro V0 ⟨ga, gt, hw⟩
  (have z0 := ga.cell 0; have z1 := ga.cell 1; have z2 := ga.cell 2; have z3 := ga.cell 3; have z4 := ga.cell 4; have z5 := ga.cell 5; have z6 := ga.cell 6; have z7 := ga.cell 7; have z8 := ga.cell 8; have z9 := ga.cell 9; have z10 := ga.cell 10; simp at z0 z1 z2 z3 z4 z5 z6 z7 z8 z9 z10; have u0 := gt.cell 0; have u1 := gt.cell 1; have u2 := gt.cell 2; have u3 := gt.cell 3; have u4 := gt.cell 4; simp at u0 u1 u2 u3 u4)
  go_upto_region 3 with (first | (go_at_call 15; (with_reducible refine (HLG.out _ hw).mono ?_); rintro _ V1 ⟨rfl, hb1⟩; have hw := bl2 hw hb1; have ga := ga.below hb1 ga.lt; have gt := gt.below hb1 gt.lt; (have z0 := ga.cell 0; have z1 := ga.cell 1; have z2 := ga.cell 2; have z3 := ga.cell 3; have z4 := ga.cell 4; have z5 := ga.cell 5; have z6 := ga.cell 6; have z7 := ga.cell 7; have z8 := ga.cell 8; have z9 := ga.cell 9; have z10 := ga.cell 10; simp at z0 z1 z2 z3 z4 z5 z6 z7 z8 z9 z10; have u0 := gt.cell 0; have u1 := gt.cell 1; have u2 := gt.cell 2; have u3 := gt.cell 3; have u4 := gt.cell 4; simp at u0 u1 u2 u3 u4)) | (go_at_call 16; refine (HLO.out _).mono ?_; rintro _ V2 ⟨rfl, hb1⟩; have hw := bl2 hw hb1; have ga := ga.below hb1 ga.lt; have gt := gt.below hb1 gt.lt; (have z0 := ga.cell 0; have z1 := ga.cell 1; have z2 := ga.cell 2; have z3 := ga.cell 3; have z4 := ga.cell 4; have z5 := ga.cell 5; have z6 := ga.cell 6; have z7 := ga.cell 7; have z8 := ga.cell 8; have z9 := ga.cell 9; have z10 := ga.cell 10; simp at z0 z1 z2 z3 z4 z5 z6 z7 z8 z9 z10; have u0 := gt.cell 0; have u1 := gt.cell 1; have u2 := gt.cell 2; have u3 := gt.cell 3; have u4 := gt.cell 4; simp at u0 u1 u2 u3 u4)))
  clear hb1
  rename World => w0
  --T c3
  go_cut [7, 8] (fun s7 s8 wx => ∃ A4 q4, s7 = .slice A4 P.length q4 ∧ s8 = .int .i64 E ∧ Sl intCell 1 wx wx.heap.size A4 P ∧ Below w0.heap.size w0 wx)
  case first =>
    as_aux_lemma =>
      go_region_held3 (fun W' => W'.cell? ⟨w.heap.size, 0, none⟩ = some (.slice A l.length c) ∧ W'.cell? ⟨w.heap.size, 1, none⟩ = some (.int .i64 e) ∧ W'.cell? ⟨w.heap.size, 2, none⟩ = some (.int .i64 b) ∧ W'.cell? ⟨w.heap.size, 3, none⟩ = some (.int .i64 u) ∧ W'.cell? ⟨w.heap.size, 4, none⟩ = some (.int .i64 d) ∧ W'.cell? ⟨w.heap.size, 5, none⟩ = some (.int .i64 p) ∧ W'.cell? ⟨w.heap.size, 6, none⟩ = some (.int .i64 f) ∧ W'.cell? ⟨w.heap.size, 7, none⟩ = some (.int .i64 m) ∧ W'.cell? ⟨w.heap.size, 8, none⟩ = some (.int .i64 y) ∧ W'.cell? ⟨w.heap.size, 9, none⟩ = some (.int .i64 s) ∧ W'.cell? ⟨w.heap.size, 10, none⟩ = some (.int .i64 k) ∧ W'.cell? ⟨w.heap.size + 1, 0, none⟩ = some (.int .i64 s0) ∧ W'.cell? ⟨w.heap.size + 1, 1, none⟩ = some (.int .i64 s1) ∧ W'.cell? ⟨w.heap.size + 1, 2, none⟩ = some (.int .i64 g0) ∧ W'.cell? ⟨w.heap.size + 1, 3, none⟩ = some (.int .i64 g1) ∧ W'.cell? ⟨w.heap.size + 1, 4, none⟩ = some (.int .i64 T)) (first | exact ⟨z0, z1, z2, z3, z4, z5, z6, z7, z8, z9, z10, u0, u1, u2, u3, u4⟩ | go_keep) (first | (go_at_call 18; (with_reducible refine (HPN.out _ _ _ _ _ _ hs2 hr3 HP3.out).mono ?_); rintro _ w3 ⟨A4, q4, rfl, hs4, -, hb3⟩; have hy3 : Below w0.heap.size w0 w3 := bl2 hy2 hb3; have ga3 := ga.below hy3 ga.lt; have gt3 := gt.below hy3 gt.lt; (have z0 := ga3.cell 0; have z1 := ga3.cell 1; have z2 := ga3.cell 2; have z3 := ga3.cell 3; have z4 := ga3.cell 4; have z5 := ga3.cell 5; have z6 := ga3.cell 6; have z7 := ga3.cell 7; have z8 := ga3.cell 8; have z9 := ga3.cell 9; have z10 := ga3.cell 10; simp at z0 z1 z2 z3 z4 z5 z6 z7 z8 z9 z10; have u0 := gt3.cell 0; have u1 := gt3.cell 1; have u2 := gt3.cell 2; have u3 := gt3.cell 3; have u4 := gt3.cell 4; simp at u0 u1 u2 u3 u4)) | (go_at_call 20; (with_reducible refine (HRU.out _ (bl2 hw hy1)).mono ?_); rintro _ w2 ⟨A3, q3, l', rfl, hpl, hown3, hrow3, hb2⟩; have hs2 := (hs1.below hb2).more hb2.size; have hr3 := RetRls.at_ hown3.out hrow3 (by rw [len_pl hpl]; omega); have HP3 := Lib.hid hpl; clear hpl hown3 hrow3; have hy2 : Below w0.heap.size w0 w2 := bl2 hy1 hb2; have ga2 := ga.below hy2 ga.lt; have gt2 := gt.below hy2 gt.lt; (have z0 := ga2.cell 0; have z1 := ga2.cell 1; have z2 := ga2.cell 2; have z3 := ga2.cell 3; have z4 := ga2.cell 4; have z5 := ga2.cell 5; have z6 := ga2.cell 6; have z7 := ga2.cell 7; have z8 := ga2.cell 8; have z9 := ga2.cell 9; have z10 := ga2.cell 10; simp at z0 z1 z2 z3 z4 z5 z6 z7 z8 z9 z10; have u0 := gt2.cell 0; have u1 := gt2.cell 1; have u2 := gt2.cell 2; have u3 := gt2.cell 3; have u4 := gt2.cell 4; simp at u0 u1 u2 u3 u4)) | (go_at_call 19; (with_reducible refine (HOW.out _ (bl2 hw (by (repeat (first | exact Below.refl _ _ | assumption | (refine Below.alloc ?_ (by first | omega | (simp; omega) | (simp; done)) _) | (refine Below.setCell ?_ (by first | omega | (simp; omega) | (simp; done)) _) | (refine Below.drew ?_) | (refine belowN ?_ _) | (refine Below.trans ?_ (Below.mono ‹Below _ _ _› (by first | omega | (simp; omega) | (simp; done))))))))).mono ?_); rintro _ w1 ⟨A1, q1, rfl, hs1, -, hb1⟩; have hy1 : Below w0.heap.size w0 w1 := Below.trans (by (repeat (first | exact Below.refl _ _ | assumption | (refine Below.alloc ?_ (by first | omega | (simp; omega) | (simp; done)) _) | (refine Below.setCell ?_ (by first | omega | (simp; omega) | (simp; done)) _) | (refine Below.drew ?_) | (refine belowN ?_ _) | (refine Below.trans ?_ (Below.mono ‹Below _ _ _› (by first | omega | (simp; omega) | (simp; done))))))) (hb1.mono (by simp)); have ga1 := ga.below hy1 ga.lt; have gt1 := gt.below hy1 gt.lt; (have z0 := ga1.cell 0; have z1 := ga1.cell 1; have z2 := ga1.cell 2; have z3 := ga1.cell 3; have z4 := ga1.cell 4; have z5 := ga1.cell 5; have z6 := ga1.cell 6; have z7 := ga1.cell 7; have z8 := ga1.cell 8; have z9 := ga1.cell 9; have z10 := ga1.cell 10; simp at z0 z1 z2 z3 z4 z5 z6 z7 z8 z9 z10; have u0 := gt1.cell 0; have u1 := gt1.cell 1; have u2 := gt1.cell 2; have u3 := gt1.cell 3; have u4 := gt1.cell 4; simp at u0 u1 u2 u3 u4)))
      all_goals (
        go_wp2_with fail
        go_meet
        exact ⟨_, _, rfl, rfl, hs4, hy3⟩)
  case rest =>
    obtain ⟨A4, q4, rfl, rfl, hs4, hcx⟩ := hcut
    rename World => W5
    have ga5 := ga.below hcx ga.lt
    have gt5 := gt.below hcx gt.lt
    have hw5 := bl2 hw hcx
    clear hcx ga gt hw
    (clear z0 z1 z2 z3 z4 z5 z6 z7 z8 z9 z10 u0 u1 u2 u3 u4)
    have ga := ga5
    have gt := gt5
    have hw := hw5
    clear ga5 gt5 hw5
    (have z0 := ga.cell 0; have z1 := ga.cell 1; have z2 := ga.cell 2; have z3 := ga.cell 3; have z4 := ga.cell 4; have z5 := ga.cell 5; have z6 := ga.cell 6; have z7 := ga.cell 7; have z8 := ga.cell 8; have z9 := ga.cell 9; have z10 := ga.cell 10; simp at z0 z1 z2 z3 z4 z5 z6 z7 z8 z9 z10; have u0 := gt.cell 0; have u1 := gt.cell 1; have u2 := gt.cell 2; have u3 := gt.cell 3; have u4 := gt.cell 4; simp at u0 u1 u2 u3 u4)
    have HS7 := Lib.hid hs4
    clear HPN hs4 HLG HLO HOW HRU
    --T r4
    go_upto_region 5 with (go_at_call 21; (with_reducible refine (HRB.out _ hw).mono ?_); rintro _ V3 ⟨rfl, hb1⟩; have HS7 := Lib.hid ((HS7.out.below hb1).more hb1.size); have hw := bl2 hw hb1; have ga := ga.below hb1 ga.lt; have gt := gt.below hb1 gt.lt; (have z0 := ga.cell 0; have z1 := ga.cell 1; have z2 := ga.cell 2; have z3 := ga.cell 3; have z4 := ga.cell 4; have z5 := ga.cell 5; have z6 := ga.cell 6; have z7 := ga.cell 7; have z8 := ga.cell 8; have z9 := ga.cell 9; have z10 := ga.cell 10; simp at z0 z1 z2 z3 z4 z5 z6 z7 z8 z9 z10; have u0 := gt.cell 0; have u1 := gt.cell 1; have u2 := gt.cell 2; have u3 := gt.cell 3; have u4 := gt.cell 4; simp at u0 u1 u2 u3 u4))
    clear hb1
    have HSP0 := Lib.hid (fun W => rspan_any s0 s1 W)
    go_cut [85] (fun s85 wx => ∃ v : Bool, s85 = .bool v ∧ Hid ((be == 0 && !okP s0 s1 g0 g1 T) = v) ∧ Below w.heap.size w wx ∧ Blk wx w.heap.size #[.slice A l.length c, .int .i64 e, .int .i64 b, .int .i64 u, .int .i64 d, .int .i64 p, .int .i64 f, .int .i64 m, .int .i64 y, .int .i64 s, .int .i64 k] 28 ∧ Blk wx (w.heap.size + 1) #[.int .i64 s0, .int .i64 s1, .int .i64 g0, .int .i64 g1, .int .i64 T] 32 ∧ Hid (Sl intCell 1 wx wx.heap.size A4 P))
    case first =>
      as_aux_lemma =>
        have HOKD : Hid (okP s0 s1 g0 g1 T = (spanB s0 s1 && (decide (1 ≤ g0) && (decide (g0 ≤ g1) && (decide (g1 ≤ 4000) && (decide (1 ≤ T) && decide (T ≤ 60))))))) := (by unfold okP inB; simp [Bool.and_assoc] : okP s0 s1 g0 g1 T = _)
        by_cases hbz : be = 0
        · have b0 : (be == 0) = true := by simpa using hbz
          subst hbz
          cases hsp : spanB s0 s1 with
          | false =>
            have HSP := Lib.hid (fun W => (by have h := HSP0.out W; rw [hsp] at h; exact h : Calls Try.prog 22 #[.int .i64 s0, .int .i64 s1] W fun e w' => e = .returned (.bool false) ∧ Below W.heap.size W w'))
            have HV5 : Hid (((0 : Int) == 0 && !okP s0 s1 g0 g1 T) = true) := (by rw [HOKD.out, hsp]; rfl : _ = true)
            clear HOKD HSP0 hsp
            go_wp2_with (go_at_call 22; refine (HSP.out _).mono ?_; rintro _ V4 ⟨rfl, hb1⟩; have HS7 := Lib.hid ((HS7.out.below hb1).more hb1.size); have hw := bl2 hw hb1; have ga := ga.below hb1 ga.lt; have gt := gt.below hb1 gt.lt; (have z0 := ga.cell 0; have z1 := ga.cell 1; have z2 := ga.cell 2; have z3 := ga.cell 3; have z4 := ga.cell 4; have z5 := ga.cell 5; have z6 := ga.cell 6; have z7 := ga.cell 7; have z8 := ga.cell 8; have z9 := ga.cell 9; have z10 := ga.cell 10; simp at z0 z1 z2 z3 z4 z5 z6 z7 z8 z9 z10; have u0 := gt.cell 0; have u1 := gt.cell 1; have u2 := gt.cell 2; have u3 := gt.cell 3; have u4 := gt.cell 4; simp at u0 u1 u2 u3 u4))
            go_meet
            exact ⟨_, rfl, HV5, hw, ga, gt, HS7⟩
          | true =>
            have HSP := Lib.hid (fun W => (by have h := HSP0.out W; rw [hsp] at h; exact h : Calls Try.prog 22 #[.int .i64 s0, .int .i64 s1] W fun e w' => e = .returned (.bool true) ∧ Below W.heap.size W w'))
            by_cases h1 : g0 < 1
            · have d1 : decide (g0 < 1) = true := decide_eq_true h1
              have HV5 : Hid (((0 : Int) == 0 && !okP s0 s1 g0 g1 T) = true) := (by rw [HOKD.out, hsp, decide_eq_false (show ¬ 1 ≤ g0 by omega)]; rfl : _ = true)
              clear HOKD HSP0 hsp h1
              go_wp2_with (go_at_call 22; refine (HSP.out _).mono ?_; rintro _ V4 ⟨rfl, hb1⟩; have HS7 := Lib.hid ((HS7.out.below hb1).more hb1.size); have hw := bl2 hw hb1; have ga := ga.below hb1 ga.lt; have gt := gt.below hb1 gt.lt; (have z0 := ga.cell 0; have z1 := ga.cell 1; have z2 := ga.cell 2; have z3 := ga.cell 3; have z4 := ga.cell 4; have z5 := ga.cell 5; have z6 := ga.cell 6; have z7 := ga.cell 7; have z8 := ga.cell 8; have z9 := ga.cell 9; have z10 := ga.cell 10; simp at z0 z1 z2 z3 z4 z5 z6 z7 z8 z9 z10; have u0 := gt.cell 0; have u1 := gt.cell 1; have u2 := gt.cell 2; have u3 := gt.cell 3; have u4 := gt.cell 4; simp at u0 u1 u2 u3 u4))
              go_meet
              exact ⟨_, rfl, HV5, hw, ga, gt, HS7⟩
            · have d1 : decide (g0 < 1) = false := decide_eq_false h1
              have e1 : decide (1 ≤ g0) = true := decide_eq_true (by omega)
              by_cases h2 : g1 < g0
              · have d2 : decide (g1 < g0) = true := decide_eq_true h2
                have HV5 : Hid (((0 : Int) == 0 && !okP s0 s1 g0 g1 T) = true) := (by rw [HOKD.out, hsp, e1, decide_eq_false (show ¬ g0 ≤ g1 by omega)]; rfl : _ = true)
                clear HOKD HSP0 hsp h1 h2 e1
                go_wp2_with (go_at_call 22; refine (HSP.out _).mono ?_; rintro _ V4 ⟨rfl, hb1⟩; have HS7 := Lib.hid ((HS7.out.below hb1).more hb1.size); have hw := bl2 hw hb1; have ga := ga.below hb1 ga.lt; have gt := gt.below hb1 gt.lt; (have z0 := ga.cell 0; have z1 := ga.cell 1; have z2 := ga.cell 2; have z3 := ga.cell 3; have z4 := ga.cell 4; have z5 := ga.cell 5; have z6 := ga.cell 6; have z7 := ga.cell 7; have z8 := ga.cell 8; have z9 := ga.cell 9; have z10 := ga.cell 10; simp at z0 z1 z2 z3 z4 z5 z6 z7 z8 z9 z10; have u0 := gt.cell 0; have u1 := gt.cell 1; have u2 := gt.cell 2; have u3 := gt.cell 3; have u4 := gt.cell 4; simp at u0 u1 u2 u3 u4))
                go_meet
                exact ⟨_, rfl, HV5, hw, ga, gt, HS7⟩
              · have d2 : decide (g1 < g0) = false := decide_eq_false h2
                have e2 : decide (g0 ≤ g1) = true := decide_eq_true (by omega)
                by_cases h3 : 4000 < g1
                · have d3 : decide (4000 < g1) = true := decide_eq_true h3
                  have HV5 : Hid (((0 : Int) == 0 && !okP s0 s1 g0 g1 T) = true) := (by rw [HOKD.out, hsp, e1, e2, decide_eq_false (show ¬ g1 ≤ 4000 by omega)]; rfl : _ = true)
                  clear HOKD HSP0 hsp h1 h2 h3 e1 e2
                  go_wp2_with (go_at_call 22; refine (HSP.out _).mono ?_; rintro _ V4 ⟨rfl, hb1⟩; have HS7 := Lib.hid ((HS7.out.below hb1).more hb1.size); have hw := bl2 hw hb1; have ga := ga.below hb1 ga.lt; have gt := gt.below hb1 gt.lt; (have z0 := ga.cell 0; have z1 := ga.cell 1; have z2 := ga.cell 2; have z3 := ga.cell 3; have z4 := ga.cell 4; have z5 := ga.cell 5; have z6 := ga.cell 6; have z7 := ga.cell 7; have z8 := ga.cell 8; have z9 := ga.cell 9; have z10 := ga.cell 10; simp at z0 z1 z2 z3 z4 z5 z6 z7 z8 z9 z10; have u0 := gt.cell 0; have u1 := gt.cell 1; have u2 := gt.cell 2; have u3 := gt.cell 3; have u4 := gt.cell 4; simp at u0 u1 u2 u3 u4))
                  go_meet
                  exact ⟨_, rfl, HV5, hw, ga, gt, HS7⟩
                · have d3 : decide (4000 < g1) = false := decide_eq_false h3
                  have e3 : decide (g1 ≤ 4000) = true := decide_eq_true (by omega)
                  by_cases h4 : T < 1
                  · have d4 : decide (T < 1) = true := decide_eq_true h4
                    have HV5 : Hid (((0 : Int) == 0 && !okP s0 s1 g0 g1 T) = true) := (by rw [HOKD.out, hsp, e1, e2, e3, decide_eq_false (show ¬ 1 ≤ T by omega)]; rfl : _ = true)
                    clear HOKD HSP0 hsp h1 h2 h3 h4 e1 e2 e3
                    go_wp2_with (go_at_call 22; refine (HSP.out _).mono ?_; rintro _ V4 ⟨rfl, hb1⟩; have HS7 := Lib.hid ((HS7.out.below hb1).more hb1.size); have hw := bl2 hw hb1; have ga := ga.below hb1 ga.lt; have gt := gt.below hb1 gt.lt; (have z0 := ga.cell 0; have z1 := ga.cell 1; have z2 := ga.cell 2; have z3 := ga.cell 3; have z4 := ga.cell 4; have z5 := ga.cell 5; have z6 := ga.cell 6; have z7 := ga.cell 7; have z8 := ga.cell 8; have z9 := ga.cell 9; have z10 := ga.cell 10; simp at z0 z1 z2 z3 z4 z5 z6 z7 z8 z9 z10; have u0 := gt.cell 0; have u1 := gt.cell 1; have u2 := gt.cell 2; have u3 := gt.cell 3; have u4 := gt.cell 4; simp at u0 u1 u2 u3 u4))
                    go_meet
                    exact ⟨_, rfl, HV5, hw, ga, gt, HS7⟩
                  · have d4 : decide (T < 1) = false := decide_eq_false h4
                    have e4 : decide (1 ≤ T) = true := decide_eq_true (by omega)
                    by_cases h5 : 60 < T
                    · have d5 : decide (60 < T) = true := decide_eq_true h5
                      have HV5 : Hid (((0 : Int) == 0 && !okP s0 s1 g0 g1 T) = true) := (by rw [HOKD.out, hsp, e1, e2, e3, e4, decide_eq_false (show ¬ T ≤ 60 by omega)]; rfl : _ = true)
                      clear HOKD HSP0 hsp h1 h2 h3 h4 h5 e1 e2 e3 e4
                      go_wp2_with (go_at_call 22; refine (HSP.out _).mono ?_; rintro _ V4 ⟨rfl, hb1⟩; have HS7 := Lib.hid ((HS7.out.below hb1).more hb1.size); have hw := bl2 hw hb1; have ga := ga.below hb1 ga.lt; have gt := gt.below hb1 gt.lt; (have z0 := ga.cell 0; have z1 := ga.cell 1; have z2 := ga.cell 2; have z3 := ga.cell 3; have z4 := ga.cell 4; have z5 := ga.cell 5; have z6 := ga.cell 6; have z7 := ga.cell 7; have z8 := ga.cell 8; have z9 := ga.cell 9; have z10 := ga.cell 10; simp at z0 z1 z2 z3 z4 z5 z6 z7 z8 z9 z10; have u0 := gt.cell 0; have u1 := gt.cell 1; have u2 := gt.cell 2; have u3 := gt.cell 3; have u4 := gt.cell 4; simp at u0 u1 u2 u3 u4))
                      go_meet
                      exact ⟨_, rfl, HV5, hw, ga, gt, HS7⟩
                    · have d5 : decide (60 < T) = false := decide_eq_false h5
                      have e5 : decide (T ≤ 60) = true := decide_eq_true (by omega)
                      have HV5 : Hid (((0 : Int) == 0 && !okP s0 s1 g0 g1 T) = false) := (by rw [HOKD.out, hsp, e1, e2, e3, e4, e5]; rfl : _ = false)
                      clear HOKD HSP0 hsp h1 h2 h3 h4 h5 e1 e2 e3 e4 e5
                      go_wp2_with (go_at_call 22; refine (HSP.out _).mono ?_; rintro _ V4 ⟨rfl, hb1⟩; have HS7 := Lib.hid ((HS7.out.below hb1).more hb1.size); have hw := bl2 hw hb1; have ga := ga.below hb1 ga.lt; have gt := gt.below hb1 gt.lt; (have z0 := ga.cell 0; have z1 := ga.cell 1; have z2 := ga.cell 2; have z3 := ga.cell 3; have z4 := ga.cell 4; have z5 := ga.cell 5; have z6 := ga.cell 6; have z7 := ga.cell 7; have z8 := ga.cell 8; have z9 := ga.cell 9; have z10 := ga.cell 10; simp at z0 z1 z2 z3 z4 z5 z6 z7 z8 z9 z10; have u0 := gt.cell 0; have u1 := gt.cell 1; have u2 := gt.cell 2; have u3 := gt.cell 3; have u4 := gt.cell 4; simp at u0 u1 u2 u3 u4))
                      go_meet
                      exact ⟨_, rfl, HV5, hw, ga, gt, HS7⟩
        · have b0 : (be == 0) = false := by simpa using hbz
          have HV5 : Hid ((be == 0 && !okP s0 s1 g0 g1 T) = false) := (by rw [b0]; rfl : _ = false)
          clear HOKD HSP0 hbz
          go_wp2_with fail
          go_meet
          exact ⟨_, rfl, HV5, hw, ga, gt, HS7⟩
    case rest =>
      (clear z0 z1 z2 z3 z4 z5 z6 z7 z8 z9 z10 u0 u1 u2 u3 u4)
      clear hw ga gt HS7 HSP0
      obtain ⟨v, rfl, HV, hw, ga, gt, HS7⟩ := hcut
      rename World => W6
      (have z0 := ga.cell 0; have z1 := ga.cell 1; have z2 := ga.cell 2; have z3 := ga.cell 3; have z4 := ga.cell 4; have z5 := ga.cell 5; have z6 := ga.cell 6; have z7 := ga.cell 7; have z8 := ga.cell 8; have z9 := ga.cell 9; have z10 := ga.cell 10; simp at z0 z1 z2 z3 z4 z5 z6 z7 z8 z9 z10; have u0 := gt.cell 0; have u1 := gt.cell 1; have u2 := gt.cell 2; have u3 := gt.cell 3; have u4 := gt.cell 4; simp at u0 u1 u2 u3 u4)
      --T r6
      by_cases hbz : be = 0
      · cases hok : okP s0 s1 g0 g1 T with
        | false =>
          --D<b
          obtain ⟨rfl, rfl⟩ := HP3.out hbz hok
          subst hbz
          have HVT : Hid (true = v) := (by have h := HV.out; rw [hok] at h; exact h : true = v)
          obtain rfl : true = v := HVT.out
          clear hok HVT HV
          go_wp2_with (go_at_call 17; refine (known_any _).mono ?_; rintro _ V1 ⟨rfl, hb1⟩; have hw := bl2 hw hb1)
          refine bodyPost_ret (v := .bool true) (by simp [results, Try.results3, go_sem]) rfl ?_
          exact ⟨rfl, hw⟩
          --D>
        | true =>
          --D<c
          have hpk := HPK.out hbz hok
          obtain ⟨o1, o2, o3, o4, o5, o6⟩ := okP_iff.1 hok
          have HDY := Lib.hid (HDY0.out hbz o1)
          have hlL := HLL.out o1
          have HPL := Lib.hid (fun A c W (h : Sl intCell 1 W W.heap.size A L) => rplan_any A c L g0 g1 T W hlL (HBL.out o1) o5 o6 h)
          obtain ⟨RG, hRG⟩ : ∃ RG, RG = refG g0 g1 L none T.toNat := ⟨_, rfl⟩
          rw [← hRG] at hpk HPL
          have HPK2 := Lib.hid hpk
          have HVT : Hid (false = v) := (by have h := HV.out; rw [hok] at h; simpa using h : false = v)
          obtain rfl : false = v := HVT.out
          have b0 : (be != 0) = false := by simp [hbz]
          clear hok hbz hpk hRG HVT HV HPK HP3 HPE HDY0 HLL HBL
          --T r9
          go_upto_region 9 with fail
          have HM1 : Hid (P.length ≤ 1000000) := hP60
          cases RG with
          | none =>
            obtain ⟨rfl, rfl⟩ : [] = P ∧ (7 : Int) = E := by have h := HPK2.out; simpa [planS] using h
            rename World => w0
            go_cut [10, 11] (fun s10 s11 wx => s10 = .slice none 0 0 ∧ s11 = .bool false ∧ Below w.heap.size w wx)
            case first =>
              as_aux_lemma =>
                go_region_held3 (fun W' => W'.cell? ⟨w.heap.size, 0, none⟩ = some (.slice A l.length c) ∧ W'.cell? ⟨w.heap.size, 1, none⟩ = some (.int .i64 e) ∧ W'.cell? ⟨w.heap.size, 2, none⟩ = some (.int .i64 b) ∧ W'.cell? ⟨w.heap.size, 3, none⟩ = some (.int .i64 u) ∧ W'.cell? ⟨w.heap.size, 4, none⟩ = some (.int .i64 d) ∧ W'.cell? ⟨w.heap.size, 5, none⟩ = some (.int .i64 p) ∧ W'.cell? ⟨w.heap.size, 6, none⟩ = some (.int .i64 f) ∧ W'.cell? ⟨w.heap.size, 7, none⟩ = some (.int .i64 m) ∧ W'.cell? ⟨w.heap.size, 8, none⟩ = some (.int .i64 y) ∧ W'.cell? ⟨w.heap.size, 9, none⟩ = some (.int .i64 s) ∧ W'.cell? ⟨w.heap.size, 10, none⟩ = some (.int .i64 k) ∧ W'.cell? ⟨w.heap.size + 1, 0, none⟩ = some (.int .i64 s0) ∧ W'.cell? ⟨w.heap.size + 1, 1, none⟩ = some (.int .i64 s1) ∧ W'.cell? ⟨w.heap.size + 1, 2, none⟩ = some (.int .i64 g0) ∧ W'.cell? ⟨w.heap.size + 1, 3, none⟩ = some (.int .i64 g1) ∧ W'.cell? ⟨w.heap.size + 1, 4, none⟩ = some (.int .i64 T)) (first | exact ⟨z0, z1, z2, z3, z4, z5, z6, z7, z8, z9, z10, u0, u1, u2, u3, u4⟩ | go_keep) (first | (go_at_call 23; (with_reducible refine (HPL.out _ _ _ HS5.out).mono ?_); rintro _ w3 ⟨rfl, hb3⟩; have ga := ga.below hb3 ga.lt; have gt := gt.below hb3 gt.lt; have hw := bl2 hw hb3; (have z0 := ga.cell 0; have z1 := ga.cell 1; have z2 := ga.cell 2; have z3 := ga.cell 3; have z4 := ga.cell 4; have z5 := ga.cell 5; have z6 := ga.cell 6; have z7 := ga.cell 7; have z8 := ga.cell 8; have z9 := ga.cell 9; have z10 := ga.cell 10; simp at z0 z1 z2 z3 z4 z5 z6 z7 z8 z9 z10; have u0 := gt.cell 0; have u1 := gt.cell 1; have u2 := gt.cell 2; have u3 := gt.cell 3; have u4 := gt.cell 4; simp at u0 u1 u2 u3 u4)) | (go_at_call 24; (with_reducible refine (HDY.out _ _ (bl2 hw (by (repeat (first | exact Below.refl _ _ | assumption | (refine Below.alloc ?_ (by first | omega | (simp; omega) | (simp; done)) _) | (refine Below.setCell ?_ (by first | omega | (simp; omega) | (simp; done)) _) | (refine Below.drew ?_) | (refine belowN ?_ _) | (refine Below.trans ?_ (Below.mono ‹Below _ _ _› (by first | omega | (simp; omega) | (simp; done)))))))) (blkND w0 #[.slice A2 rs.length c2] 29)).mono ?_); rintro _ w1 ⟨A5, q5, rfl, hs5, -, hb1⟩; have HS5 := Lib.hid hs5; have ga : Blk w1 w.heap.size #[.slice A l.length c, .int .i64 e, .int .i64 b, .int .i64 u, .int .i64 d, .int .i64 p, .int .i64 f, .int .i64 m, .int .i64 y, .int .i64 s, .int .i64 k] 28 := stepB ga (by (repeat (first | exact Below.refl _ _ | assumption | (refine Below.alloc ?_ (by first | omega | (simp; omega) | (simp; done)) _) | (refine Below.setCell ?_ (by first | omega | (simp; omega) | (simp; done)) _) | (refine Below.drew ?_) | (refine belowN ?_ _) | (refine Below.trans ?_ (Below.mono ‹Below _ _ _› (by first | omega | (simp; omega) | (simp; done))))))) hb1; have gt : Blk w1 (w.heap.size + 1) #[.int .i64 s0, .int .i64 s1, .int .i64 g0, .int .i64 g1, .int .i64 T] 32 := stepB gt (by (repeat (first | exact Below.refl _ _ | assumption | (refine Below.alloc ?_ (by first | omega | (simp; omega) | (simp; done)) _) | (refine Below.setCell ?_ (by first | omega | (simp; omega) | (simp; done)) _) | (refine Below.drew ?_) | (refine belowN ?_ _) | (refine Below.trans ?_ (Below.mono ‹Below _ _ _› (by first | omega | (simp; omega) | (simp; done))))))) hb1; have HS7 := Lib.hid (stepS HS7.out (by (repeat (first | exact Below.refl _ _ | assumption | (refine Below.alloc ?_ (by first | omega | (simp; omega) | (simp; done)) _) | (refine Below.setCell ?_ (by first | omega | (simp; omega) | (simp; done)) _) | (refine Below.drew ?_) | (refine belowN ?_ _) | (refine Below.trans ?_ (Below.mono ‹Below _ _ _› (by first | omega | (simp; omega) | (simp; done))))))) hb1); have hw : Below w.heap.size w w1 := bl2 (bl2 hw (by (repeat (first | exact Below.refl _ _ | assumption | (refine Below.alloc ?_ (by first | omega | (simp; omega) | (simp; done)) _) | (refine Below.setCell ?_ (by first | omega | (simp; omega) | (simp; done)) _) | (refine Below.drew ?_) | (refine belowN ?_ _) | (refine Below.trans ?_ (Below.mono ‹Below _ _ _› (by first | omega | (simp; omega) | (simp; done)))))))) hb1; (have z0 := ga.cell 0; have z1 := ga.cell 1; have z2 := ga.cell 2; have z3 := ga.cell 3; have z4 := ga.cell 4; have z5 := ga.cell 5; have z6 := ga.cell 6; have z7 := ga.cell 7; have z8 := ga.cell 8; have z9 := ga.cell 9; have z10 := ga.cell 10; simp at z0 z1 z2 z3 z4 z5 z6 z7 z8 z9 z10; have u0 := gt.cell 0; have u1 := gt.cell 1; have u2 := gt.cell 2; have u3 := gt.cell 3; have u4 := gt.cell 4; simp at u0 u1 u2 u3 u4); clear hs5 hb1) | fail)
                all_goals (
                  go_wp2_with fail
                  go_meet
                  exact ⟨rfl, rfl, hw⟩)
            case rest =>
              (clear z0 z1 z2 z3 z4 z5 z6 z7 z8 z9 z10 u0 u1 u2 u3 u4)
              clear hw ga gt
              obtain ⟨rfl, rfl, hw⟩ := hcut
              go_wp2_with (go_at_call 17; refine (known_any _).mono ?_; rintro _ V1 ⟨rfl, hb1⟩; have hw := bl2 hw hb1)
              refine bodyPost_ret (v := .bool true) (by simp [results, Try.results3, go_sem]) rfl ?_
              exact ⟨rfl, hw⟩
          | some p2 =>
            obtain ⟨rfl, rfl⟩ : p2 = P ∧ (0 : Int) = E := by have h := HPK2.out; simpa [planS] using h
            rename World => w0
            go_cut [10, 11] (fun s10 s11 wx => ∃ A6 q6, s10 = .slice A6 p2.length q6 ∧ s11 = .bool true ∧ Hid (Sl intCell 1 wx wx.heap.size A6 p2) ∧ Hid (Sl intCell 1 wx wx.heap.size A4 p2) ∧ Below w.heap.size w wx)
            case first =>
              as_aux_lemma =>
                go_region_held3 (fun W' => W'.cell? ⟨w.heap.size, 0, none⟩ = some (.slice A l.length c) ∧ W'.cell? ⟨w.heap.size, 1, none⟩ = some (.int .i64 e) ∧ W'.cell? ⟨w.heap.size, 2, none⟩ = some (.int .i64 b) ∧ W'.cell? ⟨w.heap.size, 3, none⟩ = some (.int .i64 u) ∧ W'.cell? ⟨w.heap.size, 4, none⟩ = some (.int .i64 d) ∧ W'.cell? ⟨w.heap.size, 5, none⟩ = some (.int .i64 p) ∧ W'.cell? ⟨w.heap.size, 6, none⟩ = some (.int .i64 f) ∧ W'.cell? ⟨w.heap.size, 7, none⟩ = some (.int .i64 m) ∧ W'.cell? ⟨w.heap.size, 8, none⟩ = some (.int .i64 y) ∧ W'.cell? ⟨w.heap.size, 9, none⟩ = some (.int .i64 s) ∧ W'.cell? ⟨w.heap.size, 10, none⟩ = some (.int .i64 k) ∧ W'.cell? ⟨w.heap.size + 1, 0, none⟩ = some (.int .i64 s0) ∧ W'.cell? ⟨w.heap.size + 1, 1, none⟩ = some (.int .i64 s1) ∧ W'.cell? ⟨w.heap.size + 1, 2, none⟩ = some (.int .i64 g0) ∧ W'.cell? ⟨w.heap.size + 1, 3, none⟩ = some (.int .i64 g1) ∧ W'.cell? ⟨w.heap.size + 1, 4, none⟩ = some (.int .i64 T)) (first | exact ⟨z0, z1, z2, z3, z4, z5, z6, z7, z8, z9, z10, u0, u1, u2, u3, u4⟩ | go_keep) (first | (go_at_call 23; (with_reducible refine (HPL.out _ _ _ HS5.out).mono ?_); rintro _ w3 ⟨A6, q6, rfl, hs6, -, hb3⟩; have HS6 := Lib.hid hs6; have HS7 := Lib.hid ((HS7.out.below hb3).more hb3.size); have ga := ga.below hb3 ga.lt; have gt := gt.below hb3 gt.lt; have hw := bl2 hw hb3; (have z0 := ga.cell 0; have z1 := ga.cell 1; have z2 := ga.cell 2; have z3 := ga.cell 3; have z4 := ga.cell 4; have z5 := ga.cell 5; have z6 := ga.cell 6; have z7 := ga.cell 7; have z8 := ga.cell 8; have z9 := ga.cell 9; have z10 := ga.cell 10; simp at z0 z1 z2 z3 z4 z5 z6 z7 z8 z9 z10; have u0 := gt.cell 0; have u1 := gt.cell 1; have u2 := gt.cell 2; have u3 := gt.cell 3; have u4 := gt.cell 4; simp at u0 u1 u2 u3 u4); clear hs6 hb3) | (go_at_call 24; (with_reducible refine (HDY.out _ _ (bl2 hw (by (repeat (first | exact Below.refl _ _ | assumption | (refine Below.alloc ?_ (by first | omega | (simp; omega) | (simp; done)) _) | (refine Below.setCell ?_ (by first | omega | (simp; omega) | (simp; done)) _) | (refine Below.drew ?_) | (refine belowN ?_ _) | (refine Below.trans ?_ (Below.mono ‹Below _ _ _› (by first | omega | (simp; omega) | (simp; done)))))))) (blkND w0 #[.slice A2 rs.length c2] 29)).mono ?_); rintro _ w1 ⟨A5, q5, rfl, hs5, -, hb1⟩; have HS5 := Lib.hid hs5; have ga : Blk w1 w.heap.size #[.slice A l.length c, .int .i64 e, .int .i64 b, .int .i64 u, .int .i64 d, .int .i64 p, .int .i64 f, .int .i64 m, .int .i64 y, .int .i64 s, .int .i64 k] 28 := stepB ga (by (repeat (first | exact Below.refl _ _ | assumption | (refine Below.alloc ?_ (by first | omega | (simp; omega) | (simp; done)) _) | (refine Below.setCell ?_ (by first | omega | (simp; omega) | (simp; done)) _) | (refine Below.drew ?_) | (refine belowN ?_ _) | (refine Below.trans ?_ (Below.mono ‹Below _ _ _› (by first | omega | (simp; omega) | (simp; done))))))) hb1; have gt : Blk w1 (w.heap.size + 1) #[.int .i64 s0, .int .i64 s1, .int .i64 g0, .int .i64 g1, .int .i64 T] 32 := stepB gt (by (repeat (first | exact Below.refl _ _ | assumption | (refine Below.alloc ?_ (by first | omega | (simp; omega) | (simp; done)) _) | (refine Below.setCell ?_ (by first | omega | (simp; omega) | (simp; done)) _) | (refine Below.drew ?_) | (refine belowN ?_ _) | (refine Below.trans ?_ (Below.mono ‹Below _ _ _› (by first | omega | (simp; omega) | (simp; done))))))) hb1; have HS7 := Lib.hid (stepS HS7.out (by (repeat (first | exact Below.refl _ _ | assumption | (refine Below.alloc ?_ (by first | omega | (simp; omega) | (simp; done)) _) | (refine Below.setCell ?_ (by first | omega | (simp; omega) | (simp; done)) _) | (refine Below.drew ?_) | (refine belowN ?_ _) | (refine Below.trans ?_ (Below.mono ‹Below _ _ _› (by first | omega | (simp; omega) | (simp; done))))))) hb1); have hw : Below w.heap.size w w1 := bl2 (bl2 hw (by (repeat (first | exact Below.refl _ _ | assumption | (refine Below.alloc ?_ (by first | omega | (simp; omega) | (simp; done)) _) | (refine Below.setCell ?_ (by first | omega | (simp; omega) | (simp; done)) _) | (refine Below.drew ?_) | (refine belowN ?_ _) | (refine Below.trans ?_ (Below.mono ‹Below _ _ _› (by first | omega | (simp; omega) | (simp; done)))))))) hb1; (have z0 := ga.cell 0; have z1 := ga.cell 1; have z2 := ga.cell 2; have z3 := ga.cell 3; have z4 := ga.cell 4; have z5 := ga.cell 5; have z6 := ga.cell 6; have z7 := ga.cell 7; have z8 := ga.cell 8; have z9 := ga.cell 9; have z10 := ga.cell 10; simp at z0 z1 z2 z3 z4 z5 z6 z7 z8 z9 z10; have u0 := gt.cell 0; have u1 := gt.cell 1; have u2 := gt.cell 2; have u3 := gt.cell 3; have u4 := gt.cell 4; simp at u0 u1 u2 u3 u4); clear hs5 hb1) | fail)
                all_goals (
                  go_wp2_with fail
                  go_meet
                  exact ⟨_, _, rfl, rfl, HS6, HS7, hw⟩)
            case rest =>
              (clear z0 z1 z2 z3 z4 z5 z6 z7 z8 z9 z10 u0 u1 u2 u3 u4)
              clear hw ga gt HS7
              obtain ⟨A6, q6, rfl, rfl, HS6, HS7, hw⟩ := hcut
              rename World => W8
              have HSA := Lib.hid (fun W (hW : Below W8.heap.size W8 W) => (by
                have h := same_any A4 A6 q4 q6 p2 p2 W HM1.out HM1.out ((HS7.out.below hW).more hW.size) ((HS6.out.below hW).more hW.size)
                rw [decide_eq_true rfl] at h
                exact h : Calls Try.prog 25 #[.slice A4 p2.length q4, .slice A6 p2.length q6] W fun e w' => e = .returned (.bool true) ∧ Below W.heap.size W w'))
              go_wp2_with (first | (go_at_call 25; (with_reducible refine (HSA.out _ (Below.refl _ _)).mono ?_); rintro _ V5 ⟨rfl, hb1⟩; have hw := bl2 hw hb1) | (go_at_call 17; refine (known_any _).mono ?_; rintro _ V1 ⟨rfl, hb1⟩; have hw := bl2 hw hb1))
              refine bodyPost_ret (v := .bool true) (by simp [results, Try.results3, go_sem]) rfl ?_
              exact ⟨rfl, hw⟩
          --D>
      · --D<a
        obtain ⟨rfl, rfl⟩ := HPE.out hbz
        have b0 : (E == 0) = false := by simpa using hbz
        have b1 : (E != 0) = true := by simpa using hbz
        have HVT : Hid (false = v) := (by have h := HV.out; rw [b0] at h; simpa using h : false = v)
        obtain rfl : false = v := HVT.out
        clear hbz HVT HV
        go_wp2_with (go_at_call 17; refine (known_any _).mono ?_; rintro _ V1 ⟨rfl, hb1⟩; have hw := bl2 hw hb1)
        refine bodyPost_ret (v := .bool true) (by simp [results, Try.results3, go_sem]) rfl ?_
        exact ⟨rfl, hw⟩
        --D>
set_option maxRecDepth 100000 in
set_option maxHeartbeats 4000000 in
theorem lwplans_w (x : Alm) (A2 : Option Addr) (c2 : Nat) (rs : List DRl) (s0 s1 g0 g1 T : Int) (w : World) (hz : x.a = none → x.c = 0) (hcx : Sl Cyc.cells 2 w w.heap.size x.a x.cycles) (hr : RlsW w w.heap.size A2 rs) :
    Calls Try.prog 3 #[.agg x.cells.toArray, .slice A2 rs.length c2, .agg #[.int .i64 s0, .int .i64 s1, .int .i64 g0, .int .i64 g1, .int .i64 T]] w fun en w' => en = .returned (.bool true) ∧ Below w.heap.size w w' := by
  have HLG := Lib.hid (fun W (hW : Below w.heap.size w W) => large_any x A2 c2 rs W ((hr.below hW).more hW.size))
  cases hlg : largeB x rs with
  | true =>
    rw [hlg] at HLG
    clear hz hcx hr hlg
    obtain ⟨A, c, l, ⟨e, b, u⟩, ⟨d, p, f, m, y, s, k⟩⟩ := x
    simp only [Alm.cells] at *
    go_enter Try.func3, Try.ntmps3
    go_upto_region 1 with fail
    refine gen_w (fun W => Blk W w.heap.size #[.slice A l.length c, .int .i64 e, .int .i64 b, .int .i64 u, .int .i64 d, .int .i64 p, .int .i64 f, .int .i64 m, .int .i64 y, .int .i64 s, .int .i64 k] 28 ∧ Blk W (w.heap.size + 1) #[.int .i64 s0, .int .i64 s1, .int .i64 g0, .int .i64 g1, .int .i64 T] 32 ∧ Below w.heap.size w W) ⟨(Blk.at_ rfl).alloc _, Blk.at_ (by simp), by (repeat (first | exact Below.refl _ _ | assumption | (refine Below.alloc ?_ (by first | omega | (simp; omega) | (simp; done)) _) | (refine Below.setCell ?_ (by first | omega | (simp; omega) | (simp; done)) _) | (refine Below.drew ?_) | (refine belowN ?_ _) | (refine Below.trans ?_ (Below.mono ‹Below _ _ _› (by first | omega | (simp; omega) | (simp; done))))))⟩ ?_
    rintro V0 ⟨ga, gt, hw⟩
    (have z0 := ga.cell 0; have z1 := ga.cell 1; have z2 := ga.cell 2; have z3 := ga.cell 3; have z4 := ga.cell 4; have z5 := ga.cell 5; have z6 := ga.cell 6; have z7 := ga.cell 7; have z8 := ga.cell 8; have z9 := ga.cell 9; have z10 := ga.cell 10; simp at z0 z1 z2 z3 z4 z5 z6 z7 z8 z9 z10; have u0 := gt.cell 0; have u1 := gt.cell 1; have u2 := gt.cell 2; have u3 := gt.cell 3; have u4 := gt.cell 4; simp at u0 u1 u2 u3 u4)
    go_wp2_with (first | (go_at_call 15; (with_reducible refine (HLG.out _ hw).mono ?_); rintro _ V1 ⟨rfl, hb1⟩; have hw := bl2 hw hb1; have ga := ga.below hb1 ga.lt; have gt := gt.below hb1 gt.lt; (have z0 := ga.cell 0; have z1 := ga.cell 1; have z2 := ga.cell 2; have z3 := ga.cell 3; have z4 := ga.cell 4; have z5 := ga.cell 5; have z6 := ga.cell 6; have z7 := ga.cell 7; have z8 := ga.cell 8; have z9 := ga.cell 9; have z10 := ga.cell 10; simp at z0 z1 z2 z3 z4 z5 z6 z7 z8 z9 z10; have u0 := gt.cell 0; have u1 := gt.cell 1; have u2 := gt.cell 2; have u3 := gt.cell 3; have u4 := gt.cell 4; simp at u0 u1 u2 u3 u4)) | (go_at_call 17; refine (known_any _).mono ?_; rintro _ V1 ⟨rfl, hb1⟩; have hw := bl2 hw hb1))
    refine bodyPost_ret (v := .bool true) (by simp [results, Try.results3, go_sem]) rfl ?_
    exact ⟨rfl, hw⟩
  | false =>
    cases hlo : lngB s0 s1 with
    | true =>
      rw [hlg] at HLG
      have HLO := Lib.hid (fun W => llong_val hlo W)
      clear hz hcx hr hlg hlo
      obtain ⟨A, c, l, ⟨e, b, u⟩, ⟨d, p, f, m, y, s, k⟩⟩ := x
      simp only [Alm.cells] at *
      go_enter Try.func3, Try.ntmps3
      go_upto_region 1 with fail
      refine gen_w (fun W => Blk W w.heap.size #[.slice A l.length c, .int .i64 e, .int .i64 b, .int .i64 u, .int .i64 d, .int .i64 p, .int .i64 f, .int .i64 m, .int .i64 y, .int .i64 s, .int .i64 k] 28 ∧ Blk W (w.heap.size + 1) #[.int .i64 s0, .int .i64 s1, .int .i64 g0, .int .i64 g1, .int .i64 T] 32 ∧ Below w.heap.size w W) ⟨(Blk.at_ rfl).alloc _, Blk.at_ (by simp), by (repeat (first | exact Below.refl _ _ | assumption | (refine Below.alloc ?_ (by first | omega | (simp; omega) | (simp; done)) _) | (refine Below.setCell ?_ (by first | omega | (simp; omega) | (simp; done)) _) | (refine Below.drew ?_) | (refine belowN ?_ _) | (refine Below.trans ?_ (Below.mono ‹Below _ _ _› (by first | omega | (simp; omega) | (simp; done))))))⟩ ?_
      rintro V0 ⟨ga, gt, hw⟩
      (have z0 := ga.cell 0; have z1 := ga.cell 1; have z2 := ga.cell 2; have z3 := ga.cell 3; have z4 := ga.cell 4; have z5 := ga.cell 5; have z6 := ga.cell 6; have z7 := ga.cell 7; have z8 := ga.cell 8; have z9 := ga.cell 9; have z10 := ga.cell 10; simp at z0 z1 z2 z3 z4 z5 z6 z7 z8 z9 z10; have u0 := gt.cell 0; have u1 := gt.cell 1; have u2 := gt.cell 2; have u3 := gt.cell 3; have u4 := gt.cell 4; simp at u0 u1 u2 u3 u4)
      go_wp2_with (first | (go_at_call 15; (with_reducible refine (HLG.out _ hw).mono ?_); rintro _ V1 ⟨rfl, hb1⟩; have hw := bl2 hw hb1; have ga := ga.below hb1 ga.lt; have gt := gt.below hb1 gt.lt; (have z0 := ga.cell 0; have z1 := ga.cell 1; have z2 := ga.cell 2; have z3 := ga.cell 3; have z4 := ga.cell 4; have z5 := ga.cell 5; have z6 := ga.cell 6; have z7 := ga.cell 7; have z8 := ga.cell 8; have z9 := ga.cell 9; have z10 := ga.cell 10; simp at z0 z1 z2 z3 z4 z5 z6 z7 z8 z9 z10; have u0 := gt.cell 0; have u1 := gt.cell 1; have u2 := gt.cell 2; have u3 := gt.cell 3; have u4 := gt.cell 4; simp at u0 u1 u2 u3 u4)) | (go_at_call 16; refine (HLO.out _).mono ?_; rintro _ V2 ⟨rfl, hb1⟩; have hw := bl2 hw hb1; have ga := ga.below hb1 ga.lt; have gt := gt.below hb1 gt.lt; (have z0 := ga.cell 0; have z1 := ga.cell 1; have z2 := ga.cell 2; have z3 := ga.cell 3; have z4 := ga.cell 4; have z5 := ga.cell 5; have z6 := ga.cell 6; have z7 := ga.cell 7; have z8 := ga.cell 8; have z9 := ga.cell 9; have z10 := ga.cell 10; simp at z0 z1 z2 z3 z4 z5 z6 z7 z8 z9 z10; have u0 := gt.cell 0; have u1 := gt.cell 1; have u2 := gt.cell 2; have u3 := gt.cell 3; have u4 := gt.cell 4; simp at u0 u1 u2 u3 u4)) | (go_at_call 17; refine (known_any _).mono ?_; rintro _ V1 ⟨rfl, hb1⟩; have hw := bl2 hw hb1))
      refine bodyPost_ret (v := .bool true) (by simp [results, Try.results3, go_sem]) rfl ?_
      exact ⟨rfl, hw⟩
    | false =>
      obtain ⟨h1, h2, h3⟩ := not_large hlg
      have hri : RlsIn w A2 rs := ⟨hr.at_ (by omega) (fun r h => by have := h3 r h; omega), fun r h => (hr.rul r h).nil⟩
      exact lwplans_any x A2 c2 rs s0 s1 g0 g1 T _ _ w hz hcx hri hlg hlo rfl
end Go.Proofs.Ytfbnllmmoaialaa

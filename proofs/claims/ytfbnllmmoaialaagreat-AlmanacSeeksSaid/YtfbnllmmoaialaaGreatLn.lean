/- almanac: the law AlmanacSeeks returns true. -/
import Derived.Test.YtfbnllmmoaialaaGreatZ26RfO
import Derived.Test.YtfbnllmmoaialaaGreatZ27RfL
import Derived.Test.YtfbnllmmoaialaaGreatZ21RfB
namespace Go.Proofs.YtfbnllmmoaialaaGreat
open Go.RowKit

theorem PsA.one {W : World} {bs c2 : Nat} {A2 : Option Addr} {rs : List DRl} (h : RlsAt W W.heap.size A2 rs) (hb : Blk W bs #[.slice A2 rs.length c2] 29) : PsA W W.heap.size (some ⟨bs, 0, none⟩) [⟨A2, c2, rs⟩] := by
  refine ⟨by simp, ⟨rfl, fun _ => ⟨bs, 0, rfl, hb.lt, fun j u hu => ?_⟩⟩, fun p hp => ?_⟩
  · have := hb.cell j
    rw [Nat.zero_add, this]
    simpa [flat, DPs.cells] using hu
  · simp only [List.mem_singleton] at hp; subst hp; exact h
theorem llong_val {a b : Int} {v : Bool} (h : lngB a b = v) (w : World) : Calls Tryz.prog 5 #[.agg #[.int .i64 a, .int .i64 b]] w fun e w' => e = .returned (.bool v) ∧ Below w.heap.size w w' := h ▸ llong_any a b w
theorem seek_3 {x : Alm} {rs : List DRl} {a b : Int} (h : bothE x rs = 0) (hs : spanB a b = false) : nextR x rs a b = (0, 3) ∧ countR x rs a b = (0, 3) := by
  unfold nextR countR
  rw [if_pos h, if_pos h, hs]
  exact ⟨rfl, rfl⟩
set_option maxRecDepth 100000 in
set_option maxHeartbeats 16000000 in
theorem lwseeks_any (x : Alm) (A2 : Option Addr) (c2 : Nat) (rs : List DRl) (fr to_ n1 E1 n2 E2 : Int) (w : World) (hz : x.a = none → x.c = 0) (hcx : Sl Cyc.cells 2 w w.heap.size x.a x.cycles) (hr : RlsIn w A2 rs) (hlg : largeB x rs = false) (hlo : lngB fr to_ = false) (hn : nextR x rs fr to_ = (n1, E1)) (hc : countR x rs fr to_ = (n2, E2)) :
    Calls Tryz.prog 3 #[.agg x.cells.toArray, .slice A2 rs.length c2, .agg #[.int .i64 fr, .int .i64 to_]] w fun en w' => en = .returned (.bool true) ∧ Below w.heap.size w w' := by
  obtain ⟨hl35, hlx, -⟩ := not_large hlg
  have hlx2 : x.cycles.length ≤ 1000000 := by omega
  have HLG := Lib.hid (fun W (hW : Below w.heap.size w W) => large_any x A2 c2 rs W ((hr.w.below hW).more hW.size))
  rw [hlg] at HLG
  have HLO := Lib.hid (fun W => llong_val hlo W)
  have HOW := Lib.hid (fun W (hW : Below w.heap.size w W) => own_any x W hz (by omega) ((hcx.below hW).more hW.size))
  have HRU := Lib.hid (fun W (hW : Below w.heap.size w W) => rules_any A2 c2 rs W ((hr.at_.below hW).more hW.size) hr.nil (by omega))
  have HNX := Lib.hid (fun A c A3 k3 l' W h1 h2 h3 => nextV hn hlx2 A c A3 k3 l' W h1 h2 h3)
  have HCT := Lib.hid (fun A c A3 k3 l' W h1 h2 h3 => countV hc hlx2 A c A3 k3 l' W h1 h2 h3)
  have HRB := Lib.hid (fun W (hW : Below w.heap.size w W) => rboth_any x A2 c2 rs W hlx2 ((hcx.below hW).more hW.size) ((hr.at_.below hW).more hW.size))
  obtain ⟨be, hbe⟩ : ∃ v, v = bothE x rs := ⟨_, rfl⟩
  rw [← hbe] at HRB
  have HDY0 := Lib.hid (fun (hbz : be = 0) (hsp : spanB fr to_ = true) bs W (hW : Below w.heap.size w W) (hB : Blk W bs #[.slice A2 rs.length c2] 29) => by
    obtain ⟨⟨q1, q2⟩, ⟨q3, q4⟩, q5, q6⟩ := spanB_iff.1 hsp
    have hb0 := bothE_zero (hbe.symm.trans hbz)
    have hh : Calls Tryz.prog 13 #[.agg x.cells.toArray, .slice (some ⟨bs, 0, none⟩) 1 1, .int .i64 fr, .int .i64 to_] W fun e w' => ∃ A c, e = .returned (.slice A (spanL x rs fr to_).length c) ∧ Sl intCell 1 w' w'.heap.size A (spanL x rs fr to_) ∧ (A = none → c = 0) ∧ Below W.heap.size W w' := rdays_any x (some ⟨bs, 0, none⟩) 1 [⟨A2, c2, rs⟩] fr to_ W hb0.1 q1 q4 (by omega) q6 (fun p hp r hr => by simp only [List.mem_singleton] at hp; subst hp; exact hb0.2.2 r hr) ((hcx.below hW).more hW.size) (PsA.one ((hr.at_.below hW).more hW.size) hB)
    exact hh)
  obtain ⟨L, hL⟩ : ∃ L, L = spanL x rs fr to_ := ⟨_, rfl⟩
  rw [← hL] at HDY0
  have HPE : Hid (be ≠ 0 → n1 = 0 ∧ E1 = be ∧ n2 = 0 ∧ E2 = be) := (fun h => by
    have h1 := nextR_er (x := x) (rs := rs) (a := fr) (b := to_) (by rw [← hbe]; exact h)
    rw [hn, hc, ← hbe] at h1
    simp only [Prod.mk.injEq] at h1
    exact ⟨h1.1.1, h1.1.2, h1.2.1, h1.2.2⟩ : be ≠ 0 → n1 = 0 ∧ E1 = be ∧ n2 = 0 ∧ E2 = be)
  have HP3 : Hid (be = 0 → spanB fr to_ = false → n1 = 0 ∧ E1 = 3 ∧ n2 = 0 ∧ E2 = 3) := (fun h h2 => by
    have h1 := seek_3 (x := x) (rs := rs) (by rw [← hbe]; exact h) h2
    rw [hn, hc] at h1
    simp only [Prod.mk.injEq] at h1
    exact ⟨h1.1.1, h1.1.2, h1.2.1, h1.2.2⟩ : be = 0 → spanB fr to_ = false → n1 = 0 ∧ E1 = 3 ∧ n2 = 0 ∧ E2 = 3)
  have HPK : Hid (be = 0 → spanB fr to_ = true → firstR L = (n1, E1) ∧ n2 = (L.length : Int) ∧ E2 = 0) := (fun h h2 => by
    have h1 := nextR_ok (x := x) (rs := rs) (by rw [← hbe]; exact h) h2
    rw [hn, hc, ← hL] at h1
    simp only [Prod.mk.injEq] at h1
    exact ⟨h1.1.symm, h1.2.1, h1.2.2⟩ : be = 0 → spanB fr to_ = true → firstR L = (n1, E1) ∧ n2 = (L.length : Int) ∧ E2 = 0)
  clear hr hcx hlg hlx hlx2 hbe hL hlo hn hc
  obtain ⟨A, c, l, ⟨e, b, u⟩, ⟨d, p, f, m, y, s, k⟩⟩ := x
  simp only [Alm.cells] at *
  go_enter Tryz.func3, Tryz.ntmps3
  go_upto_region 1 with fail
  refine gen_w (fun W => Blk W w.heap.size #[.slice A l.length c, .int .i64 e, .int .i64 b, .int .i64 u, .int .i64 d, .int .i64 p, .int .i64 f, .int .i64 m, .int .i64 y, .int .i64 s, .int .i64 k] 28 ∧ Blk W (w.heap.size + 1) #[.int .i64 fr, .int .i64 to_] 31 ∧ Below w.heap.size w W) ⟨(Blk.at_ rfl).alloc _, Blk.at_ (by simp), by (repeat (first | exact Below.refl _ _ | assumption | (refine Below.alloc ?_ (by first | omega | (simp; omega) | (simp; done)) _) | (refine Below.setCell ?_ (by first | omega | (simp; omega) | (simp; done)) _) | (refine Below.drew ?_) | (refine belowN ?_ _) | (refine Below.trans ?_ (Below.mono ‹Below _ _ _› (by first | omega | (simp; omega) | (simp; done))))))⟩ ?_
  rintro V0 ⟨ga, gt, hw⟩
  (have z0 := ga.cell 0; have z1 := ga.cell 1; have z2 := ga.cell 2; have z3 := ga.cell 3; have z4 := ga.cell 4; have z5 := ga.cell 5; have z6 := ga.cell 6; have z7 := ga.cell 7; have z8 := ga.cell 8; have z9 := ga.cell 9; have z10 := ga.cell 10; simp at z0 z1 z2 z3 z4 z5 z6 z7 z8 z9 z10; have u0 := gt.cell 0; have u1 := gt.cell 1; simp at u0 u1)
  go_upto_region 3 with (first | (go_at_call 4; (with_reducible refine (HLG.out _ hw).mono ?_); rintro _ V1 ⟨rfl, hb1⟩; have hw := bl2 hw hb1; have ga := ga.below hb1 ga.lt; have gt := gt.below hb1 gt.lt; (have z0 := ga.cell 0; have z1 := ga.cell 1; have z2 := ga.cell 2; have z3 := ga.cell 3; have z4 := ga.cell 4; have z5 := ga.cell 5; have z6 := ga.cell 6; have z7 := ga.cell 7; have z8 := ga.cell 8; have z9 := ga.cell 9; have z10 := ga.cell 10; simp at z0 z1 z2 z3 z4 z5 z6 z7 z8 z9 z10; have u0 := gt.cell 0; have u1 := gt.cell 1; simp at u0 u1)) | (go_at_call 5; refine (HLO.out _).mono ?_; rintro _ V2 ⟨rfl, hb1⟩; have hw := bl2 hw hb1; have ga := ga.below hb1 ga.lt; have gt := gt.below hb1 gt.lt; (have z0 := ga.cell 0; have z1 := ga.cell 1; have z2 := ga.cell 2; have z3 := ga.cell 3; have z4 := ga.cell 4; have z5 := ga.cell 5; have z6 := ga.cell 6; have z7 := ga.cell 7; have z8 := ga.cell 8; have z9 := ga.cell 9; have z10 := ga.cell 10; simp at z0 z1 z2 z3 z4 z5 z6 z7 z8 z9 z10; have u0 := gt.cell 0; have u1 := gt.cell 1; simp at u0 u1)))
  clear hb1
  rename World => w0
  go_cut [7, 8] (fun a b wx => a = .int .i64 n1 ∧ b = .int .i64 E1 ∧ Below w0.heap.size w0 wx)
  case first =>
    as_aux_lemma =>
      go_region_held3 (fun W' => W'.cell? ⟨w.heap.size, 0, none⟩ = some (.slice A l.length c) ∧ W'.cell? ⟨w.heap.size, 1, none⟩ = some (.int .i64 e) ∧ W'.cell? ⟨w.heap.size, 2, none⟩ = some (.int .i64 b) ∧ W'.cell? ⟨w.heap.size, 3, none⟩ = some (.int .i64 u) ∧ W'.cell? ⟨w.heap.size, 4, none⟩ = some (.int .i64 d) ∧ W'.cell? ⟨w.heap.size, 5, none⟩ = some (.int .i64 p) ∧ W'.cell? ⟨w.heap.size, 6, none⟩ = some (.int .i64 f) ∧ W'.cell? ⟨w.heap.size, 7, none⟩ = some (.int .i64 m) ∧ W'.cell? ⟨w.heap.size, 8, none⟩ = some (.int .i64 y) ∧ W'.cell? ⟨w.heap.size, 9, none⟩ = some (.int .i64 s) ∧ W'.cell? ⟨w.heap.size, 10, none⟩ = some (.int .i64 k) ∧ W'.cell? ⟨w.heap.size + 1, 0, none⟩ = some (.int .i64 fr) ∧ W'.cell? ⟨w.heap.size + 1, 1, none⟩ = some (.int .i64 to_)) (first | exact ⟨z0, z1, z2, z3, z4, z5, z6, z7, z8, z9, z10, u0, u1⟩ | go_keep) (first | (go_at_call 7; (with_reducible refine (HNX.out _ _ _ _ _ _ hs2 hr3 HP3.out).mono ?_); rintro _ w3 ⟨rfl, hb3⟩; have hy3 : Below w0.heap.size w0 w3 := bl2 hy2 hb3; have ga3 := ga.below hy3 ga.lt; have gt3 := gt.below hy3 gt.lt; (have z0 := ga3.cell 0; have z1 := ga3.cell 1; have z2 := ga3.cell 2; have z3 := ga3.cell 3; have z4 := ga3.cell 4; have z5 := ga3.cell 5; have z6 := ga3.cell 6; have z7 := ga3.cell 7; have z8 := ga3.cell 8; have z9 := ga3.cell 9; have z10 := ga3.cell 10; simp at z0 z1 z2 z3 z4 z5 z6 z7 z8 z9 z10; have u0 := gt3.cell 0; have u1 := gt3.cell 1; simp at u0 u1)) | (go_at_call 9; (with_reducible refine (HRU.out _ (bl2 hw hy1)).mono ?_); rintro _ w2 ⟨A3, q3, l', rfl, hpl, hown3, hrow3, hb2⟩; have hs2 := (hs1.below hb2).more hb2.size; have hr3 := RetRls.at_ hown3.out hrow3 (by rw [len_pl hpl]; omega); have HP3 := Lib.hid hpl; clear hpl hown3 hrow3; have hy2 : Below w0.heap.size w0 w2 := bl2 hy1 hb2; have ga2 := ga.below hy2 ga.lt; have gt2 := gt.below hy2 gt.lt; (have z0 := ga2.cell 0; have z1 := ga2.cell 1; have z2 := ga2.cell 2; have z3 := ga2.cell 3; have z4 := ga2.cell 4; have z5 := ga2.cell 5; have z6 := ga2.cell 6; have z7 := ga2.cell 7; have z8 := ga2.cell 8; have z9 := ga2.cell 9; have z10 := ga2.cell 10; simp at z0 z1 z2 z3 z4 z5 z6 z7 z8 z9 z10; have u0 := gt2.cell 0; have u1 := gt2.cell 1; simp at u0 u1)) | (go_at_call 8; (with_reducible refine (HOW.out _ (bl2 hw (by (repeat (first | exact Below.refl _ _ | assumption | (refine Below.alloc ?_ (by first | omega | (simp; omega) | (simp; done)) _) | (refine Below.setCell ?_ (by first | omega | (simp; omega) | (simp; done)) _) | (refine Below.drew ?_) | (refine belowN ?_ _) | (refine Below.trans ?_ (Below.mono ‹Below _ _ _› (by first | omega | (simp; omega) | (simp; done))))))))).mono ?_); rintro _ w1 ⟨A1, q1, rfl, hs1, -, hb1⟩; have hy1 : Below w0.heap.size w0 w1 := Below.trans (by (repeat (first | exact Below.refl _ _ | assumption | (refine Below.alloc ?_ (by first | omega | (simp; omega) | (simp; done)) _) | (refine Below.setCell ?_ (by first | omega | (simp; omega) | (simp; done)) _) | (refine Below.drew ?_) | (refine belowN ?_ _) | (refine Below.trans ?_ (Below.mono ‹Below _ _ _› (by first | omega | (simp; omega) | (simp; done))))))) (hb1.mono (by simp)); have ga1 := ga.below hy1 ga.lt; have gt1 := gt.below hy1 gt.lt; (have z0 := ga1.cell 0; have z1 := ga1.cell 1; have z2 := ga1.cell 2; have z3 := ga1.cell 3; have z4 := ga1.cell 4; have z5 := ga1.cell 5; have z6 := ga1.cell 6; have z7 := ga1.cell 7; have z8 := ga1.cell 8; have z9 := ga1.cell 9; have z10 := ga1.cell 10; simp at z0 z1 z2 z3 z4 z5 z6 z7 z8 z9 z10; have u0 := gt1.cell 0; have u1 := gt1.cell 1; simp at u0 u1)))
      all_goals (
        go_wp2_with fail
        go_meet
        exact ⟨rfl, rfl, hy3⟩)
  case rest =>
    obtain ⟨rfl, rfl, hcx⟩ := hcut
    rename World => W5
    have ga5 := ga.below hcx ga.lt
    have gt5 := gt.below hcx gt.lt
    have hw5 := bl2 hw hcx
    clear hcx ga gt hw
    (clear z0 z1 z2 z3 z4 z5 z6 z7 z8 z9 z10 u0 u1)
    have ga := ga5
    have gt := gt5
    have hw := hw5
    clear ga5 gt5 hw5
    (have z0 := ga.cell 0; have z1 := ga.cell 1; have z2 := ga.cell 2; have z3 := ga.cell 3; have z4 := ga.cell 4; have z5 := ga.cell 5; have z6 := ga.cell 6; have z7 := ga.cell 7; have z8 := ga.cell 8; have z9 := ga.cell 9; have z10 := ga.cell 10; simp at z0 z1 z2 z3 z4 z5 z6 z7 z8 z9 z10; have u0 := gt.cell 0; have u1 := gt.cell 1; simp at u0 u1)
    go_upto_region 4 with fail
    rename World => w0
    go_cut [9, 10] (fun a b wx => a = .int .i64 n2 ∧ b = .int .i64 E2 ∧ Below w0.heap.size w0 wx)
    case first =>
      as_aux_lemma =>
        go_region_held3 (fun W' => W'.cell? ⟨w.heap.size, 0, none⟩ = some (.slice A l.length c) ∧ W'.cell? ⟨w.heap.size, 1, none⟩ = some (.int .i64 e) ∧ W'.cell? ⟨w.heap.size, 2, none⟩ = some (.int .i64 b) ∧ W'.cell? ⟨w.heap.size, 3, none⟩ = some (.int .i64 u) ∧ W'.cell? ⟨w.heap.size, 4, none⟩ = some (.int .i64 d) ∧ W'.cell? ⟨w.heap.size, 5, none⟩ = some (.int .i64 p) ∧ W'.cell? ⟨w.heap.size, 6, none⟩ = some (.int .i64 f) ∧ W'.cell? ⟨w.heap.size, 7, none⟩ = some (.int .i64 m) ∧ W'.cell? ⟨w.heap.size, 8, none⟩ = some (.int .i64 y) ∧ W'.cell? ⟨w.heap.size, 9, none⟩ = some (.int .i64 s) ∧ W'.cell? ⟨w.heap.size, 10, none⟩ = some (.int .i64 k) ∧ W'.cell? ⟨w.heap.size + 1, 0, none⟩ = some (.int .i64 fr) ∧ W'.cell? ⟨w.heap.size + 1, 1, none⟩ = some (.int .i64 to_)) (first | exact ⟨z0, z1, z2, z3, z4, z5, z6, z7, z8, z9, z10, u0, u1⟩ | go_keep) (first | (go_at_call 10; (with_reducible refine (HCT.out _ _ _ _ _ _ hs2 hr3 HP3.out).mono ?_); rintro _ w3 ⟨rfl, hb3⟩; have hy3 : Below w0.heap.size w0 w3 := bl2 hy2 hb3; have ga3 := ga.below hy3 ga.lt; have gt3 := gt.below hy3 gt.lt; (have z0 := ga3.cell 0; have z1 := ga3.cell 1; have z2 := ga3.cell 2; have z3 := ga3.cell 3; have z4 := ga3.cell 4; have z5 := ga3.cell 5; have z6 := ga3.cell 6; have z7 := ga3.cell 7; have z8 := ga3.cell 8; have z9 := ga3.cell 9; have z10 := ga3.cell 10; simp at z0 z1 z2 z3 z4 z5 z6 z7 z8 z9 z10; have u0 := gt3.cell 0; have u1 := gt3.cell 1; simp at u0 u1)) | (go_at_call 9; (with_reducible refine (HRU.out _ (bl2 hw hy1)).mono ?_); rintro _ w2 ⟨A3, q3, l', rfl, hpl, hown3, hrow3, hb2⟩; have hs2 := (hs1.below hb2).more hb2.size; have hr3 := RetRls.at_ hown3.out hrow3 (by rw [len_pl hpl]; omega); have HP3 := Lib.hid hpl; clear hpl hown3 hrow3; have hy2 : Below w0.heap.size w0 w2 := bl2 hy1 hb2; have ga2 := ga.below hy2 ga.lt; have gt2 := gt.below hy2 gt.lt; (have z0 := ga2.cell 0; have z1 := ga2.cell 1; have z2 := ga2.cell 2; have z3 := ga2.cell 3; have z4 := ga2.cell 4; have z5 := ga2.cell 5; have z6 := ga2.cell 6; have z7 := ga2.cell 7; have z8 := ga2.cell 8; have z9 := ga2.cell 9; have z10 := ga2.cell 10; simp at z0 z1 z2 z3 z4 z5 z6 z7 z8 z9 z10; have u0 := gt2.cell 0; have u1 := gt2.cell 1; simp at u0 u1)) | (go_at_call 8; (with_reducible refine (HOW.out _ (bl2 hw (by (repeat (first | exact Below.refl _ _ | assumption | (refine Below.alloc ?_ (by first | omega | (simp; omega) | (simp; done)) _) | (refine Below.setCell ?_ (by first | omega | (simp; omega) | (simp; done)) _) | (refine Below.drew ?_) | (refine belowN ?_ _) | (refine Below.trans ?_ (Below.mono ‹Below _ _ _› (by first | omega | (simp; omega) | (simp; done))))))))).mono ?_); rintro _ w1 ⟨A1, q1, rfl, hs1, -, hb1⟩; have hy1 : Below w0.heap.size w0 w1 := Below.trans (by (repeat (first | exact Below.refl _ _ | assumption | (refine Below.alloc ?_ (by first | omega | (simp; omega) | (simp; done)) _) | (refine Below.setCell ?_ (by first | omega | (simp; omega) | (simp; done)) _) | (refine Below.drew ?_) | (refine belowN ?_ _) | (refine Below.trans ?_ (Below.mono ‹Below _ _ _› (by first | omega | (simp; omega) | (simp; done))))))) (hb1.mono (by simp)); have ga1 := ga.below hy1 ga.lt; have gt1 := gt.below hy1 gt.lt; (have z0 := ga1.cell 0; have z1 := ga1.cell 1; have z2 := ga1.cell 2; have z3 := ga1.cell 3; have z4 := ga1.cell 4; have z5 := ga1.cell 5; have z6 := ga1.cell 6; have z7 := ga1.cell 7; have z8 := ga1.cell 8; have z9 := ga1.cell 9; have z10 := ga1.cell 10; simp at z0 z1 z2 z3 z4 z5 z6 z7 z8 z9 z10; have u0 := gt1.cell 0; have u1 := gt1.cell 1; simp at u0 u1)))
        all_goals (
          go_wp2_with fail
          go_meet
          exact ⟨rfl, rfl, hy3⟩)
    case rest =>
      obtain ⟨rfl, rfl, hcx⟩ := hcut
      rename World => W6
      have ga5 := ga.below hcx ga.lt
      have gt5 := gt.below hcx gt.lt
      have hw5 := bl2 hw hcx
      clear hcx ga gt hw
      (clear z0 z1 z2 z3 z4 z5 z6 z7 z8 z9 z10 u0 u1)
      have ga := ga5
      have gt := gt5
      have hw := hw5
      clear ga5 gt5 hw5
      (have z0 := ga.cell 0; have z1 := ga.cell 1; have z2 := ga.cell 2; have z3 := ga.cell 3; have z4 := ga.cell 4; have z5 := ga.cell 5; have z6 := ga.cell 6; have z7 := ga.cell 7; have z8 := ga.cell 8; have z9 := ga.cell 9; have z10 := ga.cell 10; simp at z0 z1 z2 z3 z4 z5 z6 z7 z8 z9 z10; have u0 := gt.cell 0; have u1 := gt.cell 1; simp at u0 u1)
      clear HNX HCT
      go_upto_region 6 with (go_at_call 11; (with_reducible refine (HRB.out _ hw).mono ?_); rintro _ V3 ⟨rfl, hb1⟩; have hw := bl2 hw hb1; have ga := ga.below hb1 ga.lt; have gt := gt.below hb1 gt.lt; (have z0 := ga.cell 0; have z1 := ga.cell 1; have z2 := ga.cell 2; have z3 := ga.cell 3; have z4 := ga.cell 4; have z5 := ga.cell 5; have z6 := ga.cell 6; have z7 := ga.cell 7; have z8 := ga.cell 8; have z9 := ga.cell 9; have z10 := ga.cell 10; simp at z0 z1 z2 z3 z4 z5 z6 z7 z8 z9 z10; have u0 := gt.cell 0; have u1 := gt.cell 1; simp at u0 u1))
      clear hb1
      by_cases hbz : be = 0
      · subst hbz
        cases hsp : spanB fr to_ with
        | false =>
          have HSP := Lib.hid (fun W => (by have h := rspan_any fr to_ W; rw [hsp] at h; exact h : Calls Tryz.prog 12 #[.int .i64 fr, .int .i64 to_] W fun e w' => e = .returned (.bool false) ∧ Below W.heap.size W w'))
          obtain ⟨rfl, rfl, rfl, rfl⟩ := HP3.out rfl hsp
          clear hsp HP3 HPE HPK HDY0
          go_wp2_with (first | (go_at_call 12; refine (HSP.out _).mono ?_; rintro _ V4 ⟨rfl, hb1⟩; have hw := bl2 hw hb1; have ga := ga.below hb1 ga.lt; have gt := gt.below hb1 gt.lt; (have z0 := ga.cell 0; have z1 := ga.cell 1; have z2 := ga.cell 2; have z3 := ga.cell 3; have z4 := ga.cell 4; have z5 := ga.cell 5; have z6 := ga.cell 6; have z7 := ga.cell 7; have z8 := ga.cell 8; have z9 := ga.cell 9; have z10 := ga.cell 10; simp at z0 z1 z2 z3 z4 z5 z6 z7 z8 z9 z10; have u0 := gt.cell 0; have u1 := gt.cell 1; simp at u0 u1)) | (go_at_call 6; refine (known_any _).mono ?_; rintro _ V1 ⟨rfl, hb1⟩; have hw := bl2 hw hb1))
          refine bodyPost_ret (v := .bool true) (by simp [results, Tryz.results3, go_sem]) rfl ?_
          exact ⟨rfl, hw⟩
        | true =>
          have HSP := Lib.hid (fun W => (by have h := rspan_any fr to_ W; rw [hsp] at h; exact h : Calls Tryz.prog 12 #[.int .i64 fr, .int .i64 to_] W fun e w' => e = .returned (.bool true) ∧ Below W.heap.size W w'))
          have HDY := Lib.hid (HDY0.out rfl hsp)
          obtain ⟨h1, rfl, rfl⟩ := HPK.out rfl hsp
          have HF := Lib.hid h1
          clear hsp HP3 HPE HPK HDY0 h1
          go_upto_region 10 with (go_at_call 12; refine (HSP.out _).mono ?_; rintro _ V4 ⟨rfl, hb1⟩; have hw := bl2 hw hb1; have ga := ga.below hb1 ga.lt; have gt := gt.below hb1 gt.lt; (have z0 := ga.cell 0; have z1 := ga.cell 1; have z2 := ga.cell 2; have z3 := ga.cell 3; have z4 := ga.cell 4; have z5 := ga.cell 5; have z6 := ga.cell 6; have z7 := ga.cell 7; have z8 := ga.cell 8; have z9 := ga.cell 9; have z10 := ga.cell 10; simp at z0 z1 z2 z3 z4 z5 z6 z7 z8 z9 z10; have u0 := gt.cell 0; have u1 := gt.cell 1; simp at u0 u1))
          clear hb1
          have gl0 := ga.lt
          have gl1 := gt.lt
          have HBK : Hid (Blk (V4.alloc (.cells #[.slice A2 rs.length c2] 29)) V4.heap.size #[.slice A2 rs.length c2] 29) := heap_alloc_new _ _
          have hf := HF.out
          cases L with
          | nil =>
            simp only [firstR, Prod.mk.injEq] at hf
            obtain ⟨rfl, rfl⟩ := hf
            go_wp2_with (first | (go_at_call 13; (with_reducible refine (HDY.out _ _ (bla hw) HBK.out).mono ?_); rintro _ V5 ⟨A4, c4, rfl, hs4, -, hb1⟩; have HS4 := Lib.hid hs4; have hw := bl2 (bla hw) hb1; clear hs4 hb1) | (go_at_call 6; refine (known_any _).mono ?_; rintro _ V1 ⟨rfl, hb1⟩; have hw := bl2 hw hb1))
            refine bodyPost_ret (v := .bool true) (by simp [results, Tryz.results3, go_sem]) rfl ?_
            exact ⟨rfl, hw⟩
          | cons dd LL =>
            simp only [firstR, Prod.mk.injEq] at hf
            obtain ⟨rfl, rfl⟩ := hf
            obtain ⟨N, hN⟩ : ∃ N, N = (dd :: LL).length := ⟨_, rfl⟩
            rw [← hN] at HDY ⊢
            have hN1 : 0 < N := by rw [hN]; simp
            have e6 : ((N : Int) == 0) = false := beq_eq_false_iff_ne.2 (by omega)
            have e7 : ((N : Int) != (N : Int)) = false := by simp
            have hk0 : (0 : Int) < (N : Int) := by omega
            clear hN
            go_upto_region 11 with (go_at_call 13; (with_reducible refine (HDY.out _ _ (bla hw) HBK.out).mono ?_); rintro _ V5 ⟨A4, c4, rfl, hs4, -, hb1⟩; have HS4 := Lib.hid hs4; have hw := bl2 (bla hw) hb1; clear hs4 hb1)
            obtain ⟨ab, ao, rfl, hab, cd⟩ := HS4.out.int_at (k := 0) (by simp)
            have cd0 : V5.cell? ⟨ab, ao, none⟩ = some (.int .i64 dd) := by simpa using cd
            clear cd
            go_wp2_with (go_at_call 6; refine (known_any _).mono ?_; rintro _ V1 ⟨rfl, hb1⟩; have hw := bl2 hw hb1)
            refine bodyPost_ret (v := .bool true) (by simp [results, Tryz.results3, go_sem]) rfl ?_
            exact ⟨rfl, hw⟩
      · obtain ⟨rfl, rfl, rfl, e9⟩ := HPE.out hbz
        subst e9
        have b0 : (E2 == 0) = false := by simpa using hbz
        have b1 : (E2 != 0) = true := by simpa using hbz
        clear hbz HP3 HPE HPK HDY0
        go_wp2_with (go_at_call 6; refine (known_any _).mono ?_; rintro _ V1 ⟨rfl, hb1⟩; have hw := bl2 hw hb1)
        refine bodyPost_ret (v := .bool true) (by simp [results, Tryz.results3, go_sem]) rfl ?_
        exact ⟨rfl, hw⟩
set_option maxRecDepth 100000 in
set_option maxHeartbeats 4000000 in
theorem lwseeks_w (x : Alm) (A2 : Option Addr) (c2 : Nat) (rs : List DRl) (fr to_ : Int) (w : World) (hz : x.a = none → x.c = 0) (hcx : Sl Cyc.cells 2 w w.heap.size x.a x.cycles) (hr : RlsW w w.heap.size A2 rs) :
    Calls Tryz.prog 3 #[.agg x.cells.toArray, .slice A2 rs.length c2, .agg #[.int .i64 fr, .int .i64 to_]] w fun en w' => en = .returned (.bool true) ∧ Below w.heap.size w w' := by
  have HLG := Lib.hid (fun W (hW : Below w.heap.size w W) => large_any x A2 c2 rs W ((hr.below hW).more hW.size))
  cases hlg : largeB x rs with
  | true =>
    rw [hlg] at HLG
    clear hz hcx hr hlg
    obtain ⟨A, c, l, ⟨e, b, u⟩, ⟨d, p, f, m, y, s, k⟩⟩ := x
    simp only [Alm.cells] at *
    go_enter Tryz.func3, Tryz.ntmps3
    go_upto_region 1 with fail
    refine gen_w (fun W => Blk W w.heap.size #[.slice A l.length c, .int .i64 e, .int .i64 b, .int .i64 u, .int .i64 d, .int .i64 p, .int .i64 f, .int .i64 m, .int .i64 y, .int .i64 s, .int .i64 k] 28 ∧ Blk W (w.heap.size + 1) #[.int .i64 fr, .int .i64 to_] 31 ∧ Below w.heap.size w W) ⟨(Blk.at_ rfl).alloc _, Blk.at_ (by simp), by (repeat (first | exact Below.refl _ _ | assumption | (refine Below.alloc ?_ (by first | omega | (simp; omega) | (simp; done)) _) | (refine Below.setCell ?_ (by first | omega | (simp; omega) | (simp; done)) _) | (refine Below.drew ?_) | (refine belowN ?_ _) | (refine Below.trans ?_ (Below.mono ‹Below _ _ _› (by first | omega | (simp; omega) | (simp; done))))))⟩ ?_
    rintro V0 ⟨ga, gt, hw⟩
    (have z0 := ga.cell 0; have z1 := ga.cell 1; have z2 := ga.cell 2; have z3 := ga.cell 3; have z4 := ga.cell 4; have z5 := ga.cell 5; have z6 := ga.cell 6; have z7 := ga.cell 7; have z8 := ga.cell 8; have z9 := ga.cell 9; have z10 := ga.cell 10; simp at z0 z1 z2 z3 z4 z5 z6 z7 z8 z9 z10; have u0 := gt.cell 0; have u1 := gt.cell 1; simp at u0 u1)
    go_wp2_with (first | (go_at_call 4; (with_reducible refine (HLG.out _ hw).mono ?_); rintro _ V1 ⟨rfl, hb1⟩; have hw := bl2 hw hb1; have ga := ga.below hb1 ga.lt; have gt := gt.below hb1 gt.lt; (have z0 := ga.cell 0; have z1 := ga.cell 1; have z2 := ga.cell 2; have z3 := ga.cell 3; have z4 := ga.cell 4; have z5 := ga.cell 5; have z6 := ga.cell 6; have z7 := ga.cell 7; have z8 := ga.cell 8; have z9 := ga.cell 9; have z10 := ga.cell 10; simp at z0 z1 z2 z3 z4 z5 z6 z7 z8 z9 z10; have u0 := gt.cell 0; have u1 := gt.cell 1; simp at u0 u1)) | (go_at_call 6; refine (known_any _).mono ?_; rintro _ V1 ⟨rfl, hb1⟩; have hw := bl2 hw hb1))
    refine bodyPost_ret (v := .bool true) (by simp [results, Tryz.results3, go_sem]) rfl ?_
    exact ⟨rfl, hw⟩
  | false =>
    cases hlo : lngB fr to_ with
    | true =>
      rw [hlg] at HLG
      have HLO := Lib.hid (fun W => llong_val hlo W)
      clear hz hcx hr hlg hlo
      obtain ⟨A, c, l, ⟨e, b, u⟩, ⟨d, p, f, m, y, s, k⟩⟩ := x
      simp only [Alm.cells] at *
      go_enter Tryz.func3, Tryz.ntmps3
      go_upto_region 1 with fail
      refine gen_w (fun W => Blk W w.heap.size #[.slice A l.length c, .int .i64 e, .int .i64 b, .int .i64 u, .int .i64 d, .int .i64 p, .int .i64 f, .int .i64 m, .int .i64 y, .int .i64 s, .int .i64 k] 28 ∧ Blk W (w.heap.size + 1) #[.int .i64 fr, .int .i64 to_] 31 ∧ Below w.heap.size w W) ⟨(Blk.at_ rfl).alloc _, Blk.at_ (by simp), by (repeat (first | exact Below.refl _ _ | assumption | (refine Below.alloc ?_ (by first | omega | (simp; omega) | (simp; done)) _) | (refine Below.setCell ?_ (by first | omega | (simp; omega) | (simp; done)) _) | (refine Below.drew ?_) | (refine belowN ?_ _) | (refine Below.trans ?_ (Below.mono ‹Below _ _ _› (by first | omega | (simp; omega) | (simp; done))))))⟩ ?_
      rintro V0 ⟨ga, gt, hw⟩
      (have z0 := ga.cell 0; have z1 := ga.cell 1; have z2 := ga.cell 2; have z3 := ga.cell 3; have z4 := ga.cell 4; have z5 := ga.cell 5; have z6 := ga.cell 6; have z7 := ga.cell 7; have z8 := ga.cell 8; have z9 := ga.cell 9; have z10 := ga.cell 10; simp at z0 z1 z2 z3 z4 z5 z6 z7 z8 z9 z10; have u0 := gt.cell 0; have u1 := gt.cell 1; simp at u0 u1)
      go_wp2_with (first | (go_at_call 4; (with_reducible refine (HLG.out _ hw).mono ?_); rintro _ V1 ⟨rfl, hb1⟩; have hw := bl2 hw hb1; have ga := ga.below hb1 ga.lt; have gt := gt.below hb1 gt.lt; (have z0 := ga.cell 0; have z1 := ga.cell 1; have z2 := ga.cell 2; have z3 := ga.cell 3; have z4 := ga.cell 4; have z5 := ga.cell 5; have z6 := ga.cell 6; have z7 := ga.cell 7; have z8 := ga.cell 8; have z9 := ga.cell 9; have z10 := ga.cell 10; simp at z0 z1 z2 z3 z4 z5 z6 z7 z8 z9 z10; have u0 := gt.cell 0; have u1 := gt.cell 1; simp at u0 u1)) | (go_at_call 5; refine (HLO.out _).mono ?_; rintro _ V2 ⟨rfl, hb1⟩; have hw := bl2 hw hb1; have ga := ga.below hb1 ga.lt; have gt := gt.below hb1 gt.lt; (have z0 := ga.cell 0; have z1 := ga.cell 1; have z2 := ga.cell 2; have z3 := ga.cell 3; have z4 := ga.cell 4; have z5 := ga.cell 5; have z6 := ga.cell 6; have z7 := ga.cell 7; have z8 := ga.cell 8; have z9 := ga.cell 9; have z10 := ga.cell 10; simp at z0 z1 z2 z3 z4 z5 z6 z7 z8 z9 z10; have u0 := gt.cell 0; have u1 := gt.cell 1; simp at u0 u1)) | (go_at_call 6; refine (known_any _).mono ?_; rintro _ V1 ⟨rfl, hb1⟩; have hw := bl2 hw hb1))
      refine bodyPost_ret (v := .bool true) (by simp [results, Tryz.results3, go_sem]) rfl ?_
      exact ⟨rfl, hw⟩
    | false =>
      obtain ⟨h1, h2, h3⟩ := not_large hlg
      have hri : RlsIn w A2 rs := ⟨hr.at_ (by omega) (fun r h => by have := h3 r h; omega), fun r h => (hr.rul r h).nil⟩
      exact lwseeks_any x A2 c2 rs fr to_ _ _ _ _ w hz hcx hri hlg hlo rfl rfl
end Go.Proofs.YtfbnllmmoaialaaGreat

/- almanac: the law AlmanacTurns, where there is a plan. -/
import Derived.Test.YtfbnllmmoaialaaZ23Pj
namespace Go.Proofs.Ytfbnllmmoaialaa
open Go.RowKit

set_option maxRecDepth 100000 in
set_option maxHeartbeats 8000000 in
theorem lwturns_0 (x : Alm) (A2 : Option Addr) (c2 : Nat) (rs : List DRl) (s0 s1 g0 g1 T : Int) (P : List Int) (w : World) (hz : x.a = none → x.c = 0) (hcx : Sl Cyc.cells 2 w w.heap.size x.a x.cycles) (hr : RlsIn w A2 rs) (hlg : largeB x rs = false) (hP : planR x rs s0 s1 g0 g1 T = (P, 0)) :
    Calls Try.prog 11 #[.agg x.cells.toArray, .slice A2 rs.length c2, .agg #[.int .i64 s0, .int .i64 s1, .int .i64 g0, .int .i64 g1, .int .i64 T]] w fun en w' => en = .returned (.bool true) ∧ Below w.heap.size w w' := by
  obtain ⟨hl35, hlx, -⟩ := not_large hlg
  have hlx2 : x.cycles.length ≤ 1000000 := by omega
  have HLG := Lib.hid (fun W (hW : Below w.heap.size w W) => large_any x A2 c2 rs W ((hr.w.below hW).more hW.size))
  rw [hlg] at HLG
  have HOW := Lib.hid (fun W (hW : Below w.heap.size w W) => own_any x W hz (by omega) ((hcx.below hW).more hW.size))
  have HRU := Lib.hid (fun W (hW : Below w.heap.size w W) => rules_any A2 c2 rs W ((hr.at_.below hW).more hW.size) hr.nil (by omega))
  have HPN0 := Lib.hid (fun A c A3 k3 l' W h1 h2 h3 => planV hP hlx2 A c A3 k3 l' W h1 h2 h3)
  have HOK := Lib.hid (plan_okP hP)
  have hsp := spanB_iff.1 HOK.out.span
  have HAL0 := Lib.hid (fun day (hd : inB day 0 1000000 = true) (ha : allowB x rs day = true) A c A3 k3 l' W h1 h2 h3 => allowedV (show allowedR x rs day = (true, decI x rs day, 0) by unfold allowedR; rw [if_pos HOK.out.both, hd, ha]; rfl) hlx2 A c A3 k3 l' W h1 h2 h3)
  have HONE := Lib.hid (fun (h : T = 1) => (by subst h; exact plan_one hP : ∃ d, P = [d] ∧ nextR x rs s0 s1 = (d, 0)))
  have HNX0 := Lib.hid (fun d (h : nextR x rs s0 s1 = (d, 0)) A c A3 k3 l' W h1 h2 h3 => nextV h hlx2 A c A3 k3 l' W h1 h2 h3)
  have HLS := Lib.hid (fun (h : T ≠ 1) => plan_less hP h)
  have HPL := Lib.hid (fun P2 (h : planR x rs s0 s1 g0 g1 (T - 1) = (P2, 0)) A c A3 k3 l' W h1 h2 h3 => planV h hlx2 A c A3 k3 l' W h1 h2 h3)
  have hT := HOK.out.turns
  have hlen := HOK.out.len
  have hgp := HOK.out.gaps
  have hP60 : P.length ≤ 60 := by omega
  have n2 : ((P.length : Int) != T) = false := by simp [hlen]
  have n3 : decide ((P.length : Int) < 1) = false := by simp; omega
  have HDY : Hid (∀ d ∈ P, s0 ≤ d ∧ d ≤ s1 ∧ allowB x rs d = true) := (HOK.out.day : ∀ d ∈ P, s0 ≤ d ∧ d ≤ s1 ∧ allowB x rs d = true)
  have HGP : Hid (∀ i (hi : i + 1 < P.length), inB (P[i + 1] - P[i]) g0 g1 = true) := (HOK.out.gap : ∀ i (hi : i + 1 < P.length), inB (P[i + 1] - P[i]) g0 g1 = true)
  have HLN := Lib.hid hlen
  clear hr hcx hlg hP hlx hlx2 HOK hlen
  obtain ⟨A, c, l, ⟨e, b, u⟩, ⟨d, p, f, m, y, s, k⟩⟩ := x
  simp only [Alm.cells] at *
  have HPN := HPN0
  clear HPN0
  go_enter Try.func11, Try.ntmps11
  go_upto_region 1 with fail
  refine gen_w (fun W => Blk W w.heap.size #[.slice A l.length c, .int .i64 e, .int .i64 b, .int .i64 u, .int .i64 d, .int .i64 p, .int .i64 f, .int .i64 m, .int .i64 y, .int .i64 s, .int .i64 k] 28 ∧ Blk W (w.heap.size + 1) #[.int .i64 s0, .int .i64 s1, .int .i64 g0, .int .i64 g1, .int .i64 T] 32 ∧ Below w.heap.size w W) ⟨(Blk.at_ rfl).alloc _, Blk.at_ (by simp), by (repeat (first | exact Below.refl _ _ | assumption | (refine Below.alloc ?_ (by first | omega | (simp; omega) | (simp; done)) _) | (refine Below.setCell ?_ (by first | omega | (simp; omega) | (simp; done)) _) | (refine Below.drew ?_) | (refine belowN ?_ _) | (refine Below.trans ?_ (Below.mono ‹Below _ _ _› (by first | omega | (simp; omega) | (simp; done))))))⟩ ?_
  rintro V0 ⟨ga, gt, hw⟩
  (have z0 := ga.cell 0; have z1 := ga.cell 1; have z2 := ga.cell 2; have z3 := ga.cell 3; have z4 := ga.cell 4; have z5 := ga.cell 5; have z6 := ga.cell 6; have z7 := ga.cell 7; have z8 := ga.cell 8; have z9 := ga.cell 9; have z10 := ga.cell 10; simp at z0 z1 z2 z3 z4 z5 z6 z7 z8 z9 z10; have u0 := gt.cell 0; have u1 := gt.cell 1; have u2 := gt.cell 2; have u3 := gt.cell 3; have u4 := gt.cell 4; simp at u0 u1 u2 u3 u4)
  go_upto_region 3 with (go_at_call 15; (with_reducible refine (HLG.out _ hw).mono ?_); rintro _ V1 ⟨rfl, hb1⟩; have hw := bl2 hw hb1; have ga := ga.below hb1 ga.lt; have gt := gt.below hb1 gt.lt; (have z0 := ga.cell 0; have z1 := ga.cell 1; have z2 := ga.cell 2; have z3 := ga.cell 3; have z4 := ga.cell 4; have z5 := ga.cell 5; have z6 := ga.cell 6; have z7 := ga.cell 7; have z8 := ga.cell 8; have z9 := ga.cell 9; have z10 := ga.cell 10; simp at z0 z1 z2 z3 z4 z5 z6 z7 z8 z9 z10; have u0 := gt.cell 0; have u1 := gt.cell 1; have u2 := gt.cell 2; have u3 := gt.cell 3; have u4 := gt.cell 4; simp at u0 u1 u2 u3 u4))
  clear hb1
  rename World => w0
  go_cut [7, 8] (fun s7 s8 wx => ∃ A4 q4, s7 = .slice A4 P.length q4 ∧ s8 = .int .i64 0 ∧ Sl intCell 1 wx wx.heap.size A4 P ∧ Below w0.heap.size w0 wx)
  case first =>
    as_aux_lemma =>
      go_region_held3 (fun W' => W'.cell? ⟨w.heap.size, 0, none⟩ = some (.slice A l.length c) ∧ W'.cell? ⟨w.heap.size, 1, none⟩ = some (.int .i64 e) ∧ W'.cell? ⟨w.heap.size, 2, none⟩ = some (.int .i64 b) ∧ W'.cell? ⟨w.heap.size, 3, none⟩ = some (.int .i64 u) ∧ W'.cell? ⟨w.heap.size, 4, none⟩ = some (.int .i64 d) ∧ W'.cell? ⟨w.heap.size, 5, none⟩ = some (.int .i64 p) ∧ W'.cell? ⟨w.heap.size, 6, none⟩ = some (.int .i64 f) ∧ W'.cell? ⟨w.heap.size, 7, none⟩ = some (.int .i64 m) ∧ W'.cell? ⟨w.heap.size, 8, none⟩ = some (.int .i64 y) ∧ W'.cell? ⟨w.heap.size, 9, none⟩ = some (.int .i64 s) ∧ W'.cell? ⟨w.heap.size, 10, none⟩ = some (.int .i64 k) ∧ W'.cell? ⟨w.heap.size + 1, 0, none⟩ = some (.int .i64 s0) ∧ W'.cell? ⟨w.heap.size + 1, 1, none⟩ = some (.int .i64 s1) ∧ W'.cell? ⟨w.heap.size + 1, 2, none⟩ = some (.int .i64 g0) ∧ W'.cell? ⟨w.heap.size + 1, 3, none⟩ = some (.int .i64 g1) ∧ W'.cell? ⟨w.heap.size + 1, 4, none⟩ = some (.int .i64 T)) (first | exact ⟨z0, z1, z2, z3, z4, z5, z6, z7, z8, z9, z10, u0, u1, u2, u3, u4⟩ | go_keep) (first | (go_at_call 18; (with_reducible refine (HPN.out _ _ _ _ _ _ hs2 hr3 HP3.out).mono ?_); rintro _ w3 ⟨A4, q4, rfl, hs4, -, hb3⟩; have hy3 : Below w0.heap.size w0 w3 := bl2 hy2 hb3; have ga3 := ga.below hy3 ga.lt; have gt3 := gt.below hy3 gt.lt; (have z0 := ga3.cell 0; have z1 := ga3.cell 1; have z2 := ga3.cell 2; have z3 := ga3.cell 3; have z4 := ga3.cell 4; have z5 := ga3.cell 5; have z6 := ga3.cell 6; have z7 := ga3.cell 7; have z8 := ga3.cell 8; have z9 := ga3.cell 9; have z10 := ga3.cell 10; simp at z0 z1 z2 z3 z4 z5 z6 z7 z8 z9 z10; have u0 := gt3.cell 0; have u1 := gt3.cell 1; have u2 := gt3.cell 2; have u3 := gt3.cell 3; have u4 := gt3.cell 4; simp at u0 u1 u2 u3 u4)) | (go_at_call 20; (with_reducible refine (HRU.out _ (bl2 hw hy1)).mono ?_); rintro _ w2 ⟨A3, q3, l', rfl, hpl, hown3, hrow3, hb2⟩; have hs2 := (hs1.below hb2).more hb2.size; have hr3 := RetRls.at_ hown3.out hrow3 (by rw [len_pl hpl]; omega); have HP3 := Lib.hid hpl; clear hpl hown3 hrow3; have hy2 : Below w0.heap.size w0 w2 := bl2 hy1 hb2; have ga2 := ga.below hy2 ga.lt; have gt2 := gt.below hy2 gt.lt; (have z0 := ga2.cell 0; have z1 := ga2.cell 1; have z2 := ga2.cell 2; have z3 := ga2.cell 3; have z4 := ga2.cell 4; have z5 := ga2.cell 5; have z6 := ga2.cell 6; have z7 := ga2.cell 7; have z8 := ga2.cell 8; have z9 := ga2.cell 9; have z10 := ga2.cell 10; simp at z0 z1 z2 z3 z4 z5 z6 z7 z8 z9 z10; have u0 := gt2.cell 0; have u1 := gt2.cell 1; have u2 := gt2.cell 2; have u3 := gt2.cell 3; have u4 := gt2.cell 4; simp at u0 u1 u2 u3 u4)) | (go_at_call 19; (with_reducible refine (HOW.out _ (bl2 hw (by (repeat (first | exact Below.refl _ _ | assumption | (refine Below.alloc ?_ (by first | omega | (simp; omega) | (simp; done)) _) | (refine Below.setCell ?_ (by first | omega | (simp; omega) | (simp; done)) _) | (refine Below.drew ?_) | (refine belowN ?_ _) | (refine Below.trans ?_ (Below.mono ‹Below _ _ _› (by first | omega | (simp; omega) | (simp; done))))))))).mono ?_); rintro _ w1 ⟨A1, q1, rfl, hs1, -, hb1⟩; have hy1 : Below w0.heap.size w0 w1 := Below.trans (by (repeat (first | exact Below.refl _ _ | assumption | (refine Below.alloc ?_ (by first | omega | (simp; omega) | (simp; done)) _) | (refine Below.setCell ?_ (by first | omega | (simp; omega) | (simp; done)) _) | (refine Below.drew ?_) | (refine belowN ?_ _) | (refine Below.trans ?_ (Below.mono ‹Below _ _ _› (by first | omega | (simp; omega) | (simp; done))))))) (hb1.mono (by simp)); have ga1 := ga.below hy1 ga.lt; have gt1 := gt.below hy1 gt.lt; (have z0 := ga1.cell 0; have z1 := ga1.cell 1; have z2 := ga1.cell 2; have z3 := ga1.cell 3; have z4 := ga1.cell 4; have z5 := ga1.cell 5; have z6 := ga1.cell 6; have z7 := ga1.cell 7; have z8 := ga1.cell 8; have z9 := ga1.cell 9; have z10 := ga1.cell 10; simp at z0 z1 z2 z3 z4 z5 z6 z7 z8 z9 z10; have u0 := gt1.cell 0; have u1 := gt1.cell 1; have u2 := gt1.cell 2; have u3 := gt1.cell 3; have u4 := gt1.cell 4; simp at u0 u1 u2 u3 u4)))
      all_goals (
        go_wp2_with fail
        go_meet
        exact ⟨_, _, rfl, rfl, hs4, hy3⟩)
  case rest =>
    obtain ⟨A4, q4, rfl, rfl, hs4, hcx⟩ := hcut
    rename World => W5
    have ga5 := ga.below hcx ga.lt
    have gt5 := gt.below hcx gt.lt
    have hw5 := bl2 hw hcx
    clear hcx ga gt hw
    (clear z0 z1 z2 z3 z4 z5 z6 z7 z8 z9 z10 u0 u1 u2 u3 u4)
    have ga := ga5
    have gt := gt5
    have hw := hw5
    clear ga5 gt5 hw5
    (have z0 := ga.cell 0; have z1 := ga.cell 1; have z2 := ga.cell 2; have z3 := ga.cell 3; have z4 := ga.cell 4; have z5 := ga.cell 5; have z6 := ga.cell 6; have z7 := ga.cell 7; have z8 := ga.cell 8; have z9 := ga.cell 9; have z10 := ga.cell 10; simp at z0 z1 z2 z3 z4 z5 z6 z7 z8 z9 z10; have u0 := gt.cell 0; have u1 := gt.cell 1; have u2 := gt.cell 2; have u3 := gt.cell 3; have u4 := gt.cell 4; simp at u0 u1 u2 u3 u4)
    have HS7 := Lib.hid hs4
    clear HPN hs4
    go_upto_region 13 with fail
    have HW5 := Lib.hid hw; have HGA5 := Lib.hid ga; have HGT5 := Lib.hid gt
    clear hw ga gt n2 n3
    (clear z0 z1 z2 z3 z4 z5 z6 z7 z8 z9 z10 u0 u1 u2 u3 u4)
    go_loopw [11, 12, 13, 14] (fun s11 _ _ _ wr => ∃ i : Nat, i ≤ P.length ∧ s11 = .int .i64 i ∧ Hid (Below W5.heap.size W5 wr)) (fun s11 _ _ _ _ => P.length - (intOf s11).toNat)
    case atStart => exact ⟨0, by omega, rfl, Below.refl _ _⟩
    case round =>
      obtain ⟨i, hi, rfl, hb5⟩ := hrel
      have hw := bl2 HW5.out hb5.out
      have ga := HGA5.out.below hb5.out HGA5.out.lt
      have gt := HGT5.out.below hb5.out HGT5.out.lt
      (have z0 := ga.cell 0; have z1 := ga.cell 1; have z2 := ga.cell 2; have z3 := ga.cell 3; have z4 := ga.cell 4; have z5 := ga.cell 5; have z6 := ga.cell 6; have z7 := ga.cell 7; have z8 := ga.cell 8; have z9 := ga.cell 9; have z10 := ga.cell 10; simp at z0 z1 z2 z3 z4 z5 z6 z7 z8 z9 z10; have u0 := gt.cell 0; have u1 := gt.cell 1; have u2 := gt.cell 2; have u3 := gt.cell 3; have u4 := gt.cell 4; simp at u0 u1 u2 u3 u4)
      by_cases hlt : i < P.length
      · obtain ⟨pb, po, rfl, hpb, hpc⟩ := (HS7.out.below hb5.out).int_at (k := i) hlt
        obtain ⟨h1, h2, h3⟩ := HDY.out _ (List.getElem_mem hlt)
        have k0 : (0 : Int) ≤ (i : Int) := by omega
        have k1 : (i : Int) < (P.length : Int) := by omega
        have hpw : pb < wr.heap.size := by have := hb5.out.size; omega
        have HXE : Hid (∀ j, i = j + 1 → ∃ yy, inB (P[i] - yy) g0 g1 = true ∧ s0 ≤ yy ∧ yy ≤ s1 ∧ wr.cell? ⟨pb, po + j, none⟩ = some (.int .i64 yy)) := (fun j hj => by
          subst hj
          obtain ⟨pb', po', e', _, hpc'⟩ := (HS7.out.below hb5.out).int_at (k := j) (by omega)
          cases e'
          obtain ⟨d1, d2, _⟩ := HDY.out _ (List.getElem_mem (show j < P.length by omega))
          exact ⟨P[j], HGP.out j hlt, d1, d2, hpc'⟩ : ∀ j, i = j + 1 → ∃ yy, inB (P[i] - yy) g0 g1 = true ∧ s0 ≤ yy ∧ yy ≤ s1 ∧ wr.cell? ⟨pb, po + j, none⟩ = some (.int .i64 yy))
        obtain ⟨xx, hxx⟩ : ∃ xx, xx = P[i] := ⟨_, rfl⟩
        rw [← hxx] at hpc h1 h2 h3 HXE
        have HAL := Lib.hid (HAL0.out xx (inB_iff.2 ⟨by omega, by omega⟩) h3)
        obtain ⟨dd, hdd⟩ : ∃ dd, dd = decI ⟨A, c, l, ⟨e, b, u⟩, ⟨d, p, f, m, y, s, k⟩⟩ rs xx := ⟨_, rfl⟩
        rw [← hdd] at HAL
        have t1 : decide (xx < s0) = false := by simp; omega
        have t2 : decide (s1 < xx) = false := by simp; omega
        clear hxx hdd h3
        go_upto_region 15 with fail
        go_cut [144] (fun s144 wx => s144 = .bool false ∧ Below wr.heap.size wr wx)
        case first =>
          as_aux_lemma =>
            by_cases hi0 : i = 0
            · have t3 : decide ((0 : Int) < (i : Int)) = false := decide_eq_false (by omega)
              have t3' : decide (0 < i) = false := decide_eq_false (by omega)
              clear hi0 HXE
              (refine wp_region_ext (by kernel_rfl) (by kernel_rfl) ?_; (repeat (go_big_quiet_step((fail)))); with_reducible refine wpQuiet_nil ?_; intro w1 hw1; have hb1 := ext_below hw1; clear hw1)
              go_wp2_with fail
              go_meet
              exact ⟨rfl, hb1⟩
            · obtain ⟨j, hj⟩ : ∃ j, i = j + 1 := ⟨i - 1, by omega⟩
              obtain ⟨yy, hin, d1, d2, hpy⟩ := HXE.out j hj
              obtain ⟨i1, i2⟩ := inB_iff.1 hin
              have t3 : decide ((0 : Int) < (i : Int)) = true := decide_eq_true (by omega)
              have t3' : decide (0 < i) = true := decide_eq_true (by omega)
              have v1 : IntKind.i64.wrap ((i : Int) - 1) = (j : Int) := by rw [show ((i : Int) - 1) = (j : Int) by omega]; exact IntWalk.i64_in _ ⟨by omega, by omega⟩
              have v2 : IntKind.i64.wrap (xx - yy) = xx - yy := IntWalk.i64_in _ ⟨by omega, by omega⟩
              have t4 : decide (xx - yy < g0) = false := by simp; omega
              have t5 : decide (g1 < xx - yy) = false := by simp; omega
              have j0 : (0 : Int) ≤ (j : Int) := by omega
              have j1 : (j : Int) < (P.length : Int) := by omega
              clear hin hi0 HXE hj
              (refine wp_region_ext (by kernel_rfl) (by kernel_rfl) ?_; (repeat (go_big_quiet_step((fail)))); with_reducible refine wpQuiet_nil ?_; intro w1 hw1; have hb1 := ext_below hw1; clear hw1)
              go_wp2_with fail
              go_meet
              exact ⟨rfl, hb1⟩
        case rest =>
          obtain ⟨rfl, hcx⟩ := hcut
          have hpc0 := (hcx.cell (p := ⟨pb, po + i, none⟩) hpw).trans hpc
          have hb6 := bl2 hb5.out hcx
          have hpw2 : pb < wc.heap.size := by have := hcx.size; omega
          have ga5 := ga.below hcx ga.lt
          have gt5 := gt.below hcx gt.lt
          have hw5 := bl2 hw hcx
          clear hcx ga gt hw
          (clear z0 z1 z2 z3 z4 z5 z6 z7 z8 z9 z10 u0 u1 u2 u3 u4)
          have ga := ga5
          have gt := gt5
          have hw := hw5
          clear ga5 gt5 hw5
          (have z0 := ga.cell 0; have z1 := ga.cell 1; have z2 := ga.cell 2; have z3 := ga.cell 3; have z4 := ga.cell 4; have z5 := ga.cell 5; have z6 := ga.cell 6; have z7 := ga.cell 7; have z8 := ga.cell 8; have z9 := ga.cell 9; have z10 := ga.cell 10; simp at z0 z1 z2 z3 z4 z5 z6 z7 z8 z9 z10; have u0 := gt.cell 0; have u1 := gt.cell 1; have u2 := gt.cell 2; have u3 := gt.cell 3; have u4 := gt.cell 4; simp at u0 u1 u2 u3 u4)
          clear hpc hpw HXE
          have hpw := hpw2
          have hpc := hpc0
          go_upto_region 17 with fail
          rename World => w0
          go_cut [12, 13, 14] (fun a b c wx => a = .bool true ∧ b = .int .i64 dd ∧ c = .int .i64 0 ∧ Below w0.heap.size w0 wx)
          case first =>
            as_aux_lemma =>
              go_region_held3 (fun W' => W'.cell? ⟨w.heap.size, 0, none⟩ = some (.slice A l.length c) ∧ W'.cell? ⟨w.heap.size, 1, none⟩ = some (.int .i64 e) ∧ W'.cell? ⟨w.heap.size, 2, none⟩ = some (.int .i64 b) ∧ W'.cell? ⟨w.heap.size, 3, none⟩ = some (.int .i64 u) ∧ W'.cell? ⟨w.heap.size, 4, none⟩ = some (.int .i64 d) ∧ W'.cell? ⟨w.heap.size, 5, none⟩ = some (.int .i64 p) ∧ W'.cell? ⟨w.heap.size, 6, none⟩ = some (.int .i64 f) ∧ W'.cell? ⟨w.heap.size, 7, none⟩ = some (.int .i64 m) ∧ W'.cell? ⟨w.heap.size, 8, none⟩ = some (.int .i64 y) ∧ W'.cell? ⟨w.heap.size, 9, none⟩ = some (.int .i64 s) ∧ W'.cell? ⟨w.heap.size, 10, none⟩ = some (.int .i64 k) ∧ W'.cell? ⟨w.heap.size + 1, 0, none⟩ = some (.int .i64 s0) ∧ W'.cell? ⟨w.heap.size + 1, 1, none⟩ = some (.int .i64 s1) ∧ W'.cell? ⟨w.heap.size + 1, 2, none⟩ = some (.int .i64 g0) ∧ W'.cell? ⟨w.heap.size + 1, 3, none⟩ = some (.int .i64 g1) ∧ W'.cell? ⟨w.heap.size + 1, 4, none⟩ = some (.int .i64 T) ∧ W'.cell? ⟨pb, po + i, none⟩ = some (.int .i64 xx)) (first | exact ⟨z0, z1, z2, z3, z4, z5, z6, z7, z8, z9, z10, u0, u1, u2, u3, u4, hpc⟩ | go_keep) (first | (go_at_call 37; (with_reducible refine (HAL.out _ _ _ _ _ _ hs2 hr3 HP3.out).mono ?_); rintro _ w3 ⟨rfl, hb3⟩; have hy3 : Below w0.heap.size w0 w3 := bl2 hy2 hb3; have ga3 := ga.below hy3 ga.lt; have gt3 := gt.below hy3 gt.lt; (have z0 := ga3.cell 0; have z1 := ga3.cell 1; have z2 := ga3.cell 2; have z3 := ga3.cell 3; have z4 := ga3.cell 4; have z5 := ga3.cell 5; have z6 := ga3.cell 6; have z7 := ga3.cell 7; have z8 := ga3.cell 8; have z9 := ga3.cell 9; have z10 := ga3.cell 10; simp at z0 z1 z2 z3 z4 z5 z6 z7 z8 z9 z10; have u0 := gt3.cell 0; have u1 := gt3.cell 1; have u2 := gt3.cell 2; have u3 := gt3.cell 3; have u4 := gt3.cell 4; simp at u0 u1 u2 u3 u4); have hpc := (hy3.cell (p := ⟨pb, po + i, none⟩) hpw).trans hpc0) | (go_at_call 20; (with_reducible refine (HRU.out _ (bl2 hw hy1)).mono ?_); rintro _ w2 ⟨A3, q3, l', rfl, hpl, hown3, hrow3, hb2⟩; have hs2 := (hs1.below hb2).more hb2.size; have hr3 := RetRls.at_ hown3.out hrow3 (by rw [len_pl hpl]; omega); have HP3 := Lib.hid hpl; clear hpl hown3 hrow3; have hy2 : Below w0.heap.size w0 w2 := bl2 hy1 hb2; have ga2 := ga.below hy2 ga.lt; have gt2 := gt.below hy2 gt.lt; (have z0 := ga2.cell 0; have z1 := ga2.cell 1; have z2 := ga2.cell 2; have z3 := ga2.cell 3; have z4 := ga2.cell 4; have z5 := ga2.cell 5; have z6 := ga2.cell 6; have z7 := ga2.cell 7; have z8 := ga2.cell 8; have z9 := ga2.cell 9; have z10 := ga2.cell 10; simp at z0 z1 z2 z3 z4 z5 z6 z7 z8 z9 z10; have u0 := gt2.cell 0; have u1 := gt2.cell 1; have u2 := gt2.cell 2; have u3 := gt2.cell 3; have u4 := gt2.cell 4; simp at u0 u1 u2 u3 u4); have hpc := (hy2.cell (p := ⟨pb, po + i, none⟩) hpw).trans hpc0) | (go_at_call 19; (with_reducible refine (HOW.out _ (bl2 hw (by (repeat (first | exact Below.refl _ _ | assumption | (refine Below.alloc ?_ (by first | omega | (simp; omega) | (simp; done)) _) | (refine Below.setCell ?_ (by first | omega | (simp; omega) | (simp; done)) _) | (refine Below.drew ?_) | (refine belowN ?_ _) | (refine Below.trans ?_ (Below.mono ‹Below _ _ _› (by first | omega | (simp; omega) | (simp; done))))))))).mono ?_); rintro _ w1 ⟨A1, q1, rfl, hs1, -, hb1⟩; have hy1 : Below w0.heap.size w0 w1 := Below.trans (by (repeat (first | exact Below.refl _ _ | assumption | (refine Below.alloc ?_ (by first | omega | (simp; omega) | (simp; done)) _) | (refine Below.setCell ?_ (by first | omega | (simp; omega) | (simp; done)) _) | (refine Below.drew ?_) | (refine belowN ?_ _) | (refine Below.trans ?_ (Below.mono ‹Below _ _ _› (by first | omega | (simp; omega) | (simp; done))))))) (hb1.mono (by simp)); have ga1 := ga.below hy1 ga.lt; have gt1 := gt.below hy1 gt.lt; (have z0 := ga1.cell 0; have z1 := ga1.cell 1; have z2 := ga1.cell 2; have z3 := ga1.cell 3; have z4 := ga1.cell 4; have z5 := ga1.cell 5; have z6 := ga1.cell 6; have z7 := ga1.cell 7; have z8 := ga1.cell 8; have z9 := ga1.cell 9; have z10 := ga1.cell 10; simp at z0 z1 z2 z3 z4 z5 z6 z7 z8 z9 z10; have u0 := gt1.cell 0; have u1 := gt1.cell 1; have u2 := gt1.cell 2; have u3 := gt1.cell 3; have u4 := gt1.cell 4; simp at u0 u1 u2 u3 u4); have hpc := (hy1.cell (p := ⟨pb, po + i, none⟩) hpw).trans hpc0))
              all_goals (
                go_wp2_with fail
                go_meet
                exact ⟨rfl, rfl, rfl, hy3⟩)
          case rest =>
            obtain ⟨rfl, rfl, rfl, hcx⟩ := hcut
            have hb7 := bl2 hb6 hcx
            go_wp2_with fail
            go_roundw
            case rel => exact ⟨i + 1, by omega, by go_num, hb7⟩
            case measure => simp [intOf]; omega
      · obtain rfl : i = P.length := by omega
        have hwA := hw; have gaA := ga; have gtA := gt
        have HS8 := Lib.hid ((HS7.out.below hb5.out).more hb5.out.size)
        have hL1 : 0 < P.length := by have := HLN.out; omega
        clear HGA5 HGT5 HW5 HS7 hb5 HAL0 HGP HDY hlt hi
        by_cases hT1 : T = 1
        · obtain ⟨dn, hPd, hnx⟩ := HONE.out hT1
          have HNX := Lib.hid (HNX0.out dn hnx)
          have t1 : (T == 1) = true := by simpa using hT1
          clear hT1
          obtain ⟨pb, po, rfl, hpb, hpc⟩ := HS8.out.int_at (k := 0) hL1
          have hpc0 : wr.cell? ⟨pb, po, none⟩ = some (.int .i64 dn) := by
            have h1 : P[0]'hL1 = dn := by simp [hPd]
            rw [h1] at hpc
            simpa using hpc
          have hL2 : (0 : Int) < (P.length : Int) := by omega
          clear HONE HNX0 HLS HPL hPd hnx hpc
          go_upto_region 21 with fail
          clear t1
          rename World => w0
          go_cut [15, 16] (fun a b wx => a = .int .i64 dn ∧ b = .int .i64 0 ∧ Below w0.heap.size w0 wx)
          case first =>
            as_aux_lemma =>
              go_region_held3 (fun W' => W'.cell? ⟨w.heap.size, 0, none⟩ = some (.slice A l.length c) ∧ W'.cell? ⟨w.heap.size, 1, none⟩ = some (.int .i64 e) ∧ W'.cell? ⟨w.heap.size, 2, none⟩ = some (.int .i64 b) ∧ W'.cell? ⟨w.heap.size, 3, none⟩ = some (.int .i64 u) ∧ W'.cell? ⟨w.heap.size, 4, none⟩ = some (.int .i64 d) ∧ W'.cell? ⟨w.heap.size, 5, none⟩ = some (.int .i64 p) ∧ W'.cell? ⟨w.heap.size, 6, none⟩ = some (.int .i64 f) ∧ W'.cell? ⟨w.heap.size, 7, none⟩ = some (.int .i64 m) ∧ W'.cell? ⟨w.heap.size, 8, none⟩ = some (.int .i64 y) ∧ W'.cell? ⟨w.heap.size, 9, none⟩ = some (.int .i64 s) ∧ W'.cell? ⟨w.heap.size, 10, none⟩ = some (.int .i64 k) ∧ W'.cell? ⟨w.heap.size + 1, 0, none⟩ = some (.int .i64 s0) ∧ W'.cell? ⟨w.heap.size + 1, 1, none⟩ = some (.int .i64 s1) ∧ W'.cell? ⟨w.heap.size + 1, 2, none⟩ = some (.int .i64 g0) ∧ W'.cell? ⟨w.heap.size + 1, 3, none⟩ = some (.int .i64 g1) ∧ W'.cell? ⟨w.heap.size + 1, 4, none⟩ = some (.int .i64 T)) (first | exact ⟨z0, z1, z2, z3, z4, z5, z6, z7, z8, z9, z10, u0, u1, u2, u3, u4⟩ | go_keep) (first | (go_at_call 53; (with_reducible refine (HNX.out _ _ _ _ _ _ hs2 hr3 HP3.out).mono ?_); rintro _ w3 ⟨rfl, hb3⟩; have hy3 : Below w0.heap.size w0 w3 := bl2 hy2 hb3; have ga3 := ga.below hy3 ga.lt; have gt3 := gt.below hy3 gt.lt; (have z0 := ga3.cell 0; have z1 := ga3.cell 1; have z2 := ga3.cell 2; have z3 := ga3.cell 3; have z4 := ga3.cell 4; have z5 := ga3.cell 5; have z6 := ga3.cell 6; have z7 := ga3.cell 7; have z8 := ga3.cell 8; have z9 := ga3.cell 9; have z10 := ga3.cell 10; simp at z0 z1 z2 z3 z4 z5 z6 z7 z8 z9 z10; have u0 := gt3.cell 0; have u1 := gt3.cell 1; have u2 := gt3.cell 2; have u3 := gt3.cell 3; have u4 := gt3.cell 4; simp at u0 u1 u2 u3 u4)) | (go_at_call 20; (with_reducible refine (HRU.out _ (bl2 hw hy1)).mono ?_); rintro _ w2 ⟨A3, q3, l', rfl, hpl, hown3, hrow3, hb2⟩; have hs2 := (hs1.below hb2).more hb2.size; have hr3 := RetRls.at_ hown3.out hrow3 (by rw [len_pl hpl]; omega); have HP3 := Lib.hid hpl; clear hpl hown3 hrow3; have hy2 : Below w0.heap.size w0 w2 := bl2 hy1 hb2; have ga2 := ga.below hy2 ga.lt; have gt2 := gt.below hy2 gt.lt; (have z0 := ga2.cell 0; have z1 := ga2.cell 1; have z2 := ga2.cell 2; have z3 := ga2.cell 3; have z4 := ga2.cell 4; have z5 := ga2.cell 5; have z6 := ga2.cell 6; have z7 := ga2.cell 7; have z8 := ga2.cell 8; have z9 := ga2.cell 9; have z10 := ga2.cell 10; simp at z0 z1 z2 z3 z4 z5 z6 z7 z8 z9 z10; have u0 := gt2.cell 0; have u1 := gt2.cell 1; have u2 := gt2.cell 2; have u3 := gt2.cell 3; have u4 := gt2.cell 4; simp at u0 u1 u2 u3 u4)) | (go_at_call 19; (with_reducible refine (HOW.out _ (bl2 hw (by (repeat (first | exact Below.refl _ _ | assumption | (refine Below.alloc ?_ (by first | omega | (simp; omega) | (simp; done)) _) | (refine Below.setCell ?_ (by first | omega | (simp; omega) | (simp; done)) _) | (refine Below.drew ?_) | (refine belowN ?_ _) | (refine Below.trans ?_ (Below.mono ‹Below _ _ _› (by first | omega | (simp; omega) | (simp; done))))))))).mono ?_); rintro _ w1 ⟨A1, q1, rfl, hs1, -, hb1⟩; have hy1 : Below w0.heap.size w0 w1 := Below.trans (by (repeat (first | exact Below.refl _ _ | assumption | (refine Below.alloc ?_ (by first | omega | (simp; omega) | (simp; done)) _) | (refine Below.setCell ?_ (by first | omega | (simp; omega) | (simp; done)) _) | (refine Below.drew ?_) | (refine belowN ?_ _) | (refine Below.trans ?_ (Below.mono ‹Below _ _ _› (by first | omega | (simp; omega) | (simp; done))))))) (hb1.mono (by simp)); have ga1 := ga.below hy1 ga.lt; have gt1 := gt.below hy1 gt.lt; (have z0 := ga1.cell 0; have z1 := ga1.cell 1; have z2 := ga1.cell 2; have z3 := ga1.cell 3; have z4 := ga1.cell 4; have z5 := ga1.cell 5; have z6 := ga1.cell 6; have z7 := ga1.cell 7; have z8 := ga1.cell 8; have z9 := ga1.cell 9; have z10 := ga1.cell 10; simp at z0 z1 z2 z3 z4 z5 z6 z7 z8 z9 z10; have u0 := gt1.cell 0; have u1 := gt1.cell 1; have u2 := gt1.cell 2; have u3 := gt1.cell 3; have u4 := gt1.cell 4; simp at u0 u1 u2 u3 u4)))
              all_goals (
                go_wp2_with fail
                go_meet
                exact ⟨rfl, rfl, hy3⟩)
          case rest =>
            obtain ⟨rfl, rfl, hcx⟩ := hcut
            have hpc := (hcx.cell (p := ⟨pb, po, none⟩) (by show pb < w0.heap.size; omega)).trans hpc0
            have hw9 := bl2 hw hcx
            clear hw ga gt hcx hpc0
            (clear z0 z1 z2 z3 z4 z5 z6 z7 z8 z9 z10 u0 u1 u2 u3 u4)
            have hw := hw9
            go_wp2_with (go_at_call 17; refine (known_any _).mono ?_; rintro _ V1 ⟨rfl, hb1⟩; have hw := bl2 hw hb1)
            refine bodyPost_ret (v := .bool true) (by simp [results, Try.results11, go_sem]) rfl ?_
            exact ⟨rfl, hw⟩
        · obtain ⟨P2, hP2, hl2, hle⟩ := HLS.out hT1
          have HPN := Lib.hid (HPL.out P2 hP2)
          have t1 : (T == 1) = false := by simpa using hT1
          have v1 : IntKind.i64.wrap (T - 1) = T - 1 := IntWalk.i64_in _ ⟨by omega, by omega⟩
          have n2 : ((P2.length : Int) != T - 1) = false := by simp [hl2]
          have HL2 := Lib.hid hl2; have HLE := Lib.hid hle
          clear HONE HNX0 HLS HPL hP2 hl2 hle
          go_upto_region 23 with fail
          rename World => w0
          go_cut [17, 8] (fun s7 s8 wx => ∃ A4 q4, s7 = .slice A4 P2.length q4 ∧ s8 = .int .i64 0 ∧ Sl intCell 1 wx wx.heap.size A4 P2 ∧ Below w0.heap.size w0 wx)
          case first =>
            as_aux_lemma =>
              go_region_held3 (fun W' => W'.cell? ⟨w.heap.size, 0, none⟩ = some (.slice A l.length c) ∧ W'.cell? ⟨w.heap.size, 1, none⟩ = some (.int .i64 e) ∧ W'.cell? ⟨w.heap.size, 2, none⟩ = some (.int .i64 b) ∧ W'.cell? ⟨w.heap.size, 3, none⟩ = some (.int .i64 u) ∧ W'.cell? ⟨w.heap.size, 4, none⟩ = some (.int .i64 d) ∧ W'.cell? ⟨w.heap.size, 5, none⟩ = some (.int .i64 p) ∧ W'.cell? ⟨w.heap.size, 6, none⟩ = some (.int .i64 f) ∧ W'.cell? ⟨w.heap.size, 7, none⟩ = some (.int .i64 m) ∧ W'.cell? ⟨w.heap.size, 8, none⟩ = some (.int .i64 y) ∧ W'.cell? ⟨w.heap.size, 9, none⟩ = some (.int .i64 s) ∧ W'.cell? ⟨w.heap.size, 10, none⟩ = some (.int .i64 k) ∧ W'.cell? ⟨w.heap.size + 1, 0, none⟩ = some (.int .i64 s0) ∧ W'.cell? ⟨w.heap.size + 1, 1, none⟩ = some (.int .i64 s1) ∧ W'.cell? ⟨w.heap.size + 1, 2, none⟩ = some (.int .i64 g0) ∧ W'.cell? ⟨w.heap.size + 1, 3, none⟩ = some (.int .i64 g1) ∧ W'.cell? ⟨w.heap.size + 1, 4, none⟩ = some (.int .i64 T)) (first | exact ⟨z0, z1, z2, z3, z4, z5, z6, z7, z8, z9, z10, u0, u1, u2, u3, u4⟩ | go_keep) (first | (go_at_call 18; (with_reducible refine (HPN.out _ _ _ _ _ _ hs2 hr3 HP3.out).mono ?_); rintro _ w3 ⟨A4, q4, rfl, hs4, -, hb3⟩; have hy3 : Below w0.heap.size w0 w3 := bl2 hy2 hb3; have ga3 := ga.below hy3 ga.lt; have gt3 := gt.below hy3 gt.lt; (have z0 := ga3.cell 0; have z1 := ga3.cell 1; have z2 := ga3.cell 2; have z3 := ga3.cell 3; have z4 := ga3.cell 4; have z5 := ga3.cell 5; have z6 := ga3.cell 6; have z7 := ga3.cell 7; have z8 := ga3.cell 8; have z9 := ga3.cell 9; have z10 := ga3.cell 10; simp at z0 z1 z2 z3 z4 z5 z6 z7 z8 z9 z10; have u0 := gt3.cell 0; have u1 := gt3.cell 1; have u2 := gt3.cell 2; have u3 := gt3.cell 3; have u4 := gt3.cell 4; simp at u0 u1 u2 u3 u4)) | (go_at_call 20; (with_reducible refine (HRU.out _ (bl2 hw hy1)).mono ?_); rintro _ w2 ⟨A3, q3, l', rfl, hpl, hown3, hrow3, hb2⟩; have hs2 := (hs1.below hb2).more hb2.size; have hr3 := RetRls.at_ hown3.out hrow3 (by rw [len_pl hpl]; omega); have HP3 := Lib.hid hpl; clear hpl hown3 hrow3; have hy2 : Below w0.heap.size w0 w2 := bl2 hy1 hb2; have ga2 := ga.below hy2 ga.lt; have gt2 := gt.below hy2 gt.lt; (have z0 := ga2.cell 0; have z1 := ga2.cell 1; have z2 := ga2.cell 2; have z3 := ga2.cell 3; have z4 := ga2.cell 4; have z5 := ga2.cell 5; have z6 := ga2.cell 6; have z7 := ga2.cell 7; have z8 := ga2.cell 8; have z9 := ga2.cell 9; have z10 := ga2.cell 10; simp at z0 z1 z2 z3 z4 z5 z6 z7 z8 z9 z10; have u0 := gt2.cell 0; have u1 := gt2.cell 1; have u2 := gt2.cell 2; have u3 := gt2.cell 3; have u4 := gt2.cell 4; simp at u0 u1 u2 u3 u4)) | (go_at_call 19; (with_reducible refine (HOW.out _ (bl2 hw (by (repeat (first | exact Below.refl _ _ | assumption | (refine Below.alloc ?_ (by first | omega | (simp; omega) | (simp; done)) _) | (refine Below.setCell ?_ (by first | omega | (simp; omega) | (simp; done)) _) | (refine Below.drew ?_) | (refine belowN ?_ _) | (refine Below.trans ?_ (Below.mono ‹Below _ _ _› (by first | omega | (simp; omega) | (simp; done))))))))).mono ?_); rintro _ w1 ⟨A1, q1, rfl, hs1, -, hb1⟩; have hy1 : Below w0.heap.size w0 w1 := Below.trans (by (repeat (first | exact Below.refl _ _ | assumption | (refine Below.alloc ?_ (by first | omega | (simp; omega) | (simp; done)) _) | (refine Below.setCell ?_ (by first | omega | (simp; omega) | (simp; done)) _) | (refine Below.drew ?_) | (refine belowN ?_ _) | (refine Below.trans ?_ (Below.mono ‹Below _ _ _› (by first | omega | (simp; omega) | (simp; done))))))) (hb1.mono (by simp)); have ga1 := ga.below hy1 ga.lt; have gt1 := gt.below hy1 gt.lt; (have z0 := ga1.cell 0; have z1 := ga1.cell 1; have z2 := ga1.cell 2; have z3 := ga1.cell 3; have z4 := ga1.cell 4; have z5 := ga1.cell 5; have z6 := ga1.cell 6; have z7 := ga1.cell 7; have z8 := ga1.cell 8; have z9 := ga1.cell 9; have z10 := ga1.cell 10; simp at z0 z1 z2 z3 z4 z5 z6 z7 z8 z9 z10; have u0 := gt1.cell 0; have u1 := gt1.cell 1; have u2 := gt1.cell 2; have u3 := gt1.cell 3; have u4 := gt1.cell 4; simp at u0 u1 u2 u3 u4)))
              all_goals (
                go_wp2_with fail
                go_meet
                exact ⟨_, _, rfl, rfl, hs4, hy3⟩)
          case rest =>
            obtain ⟨A5, q5, rfl, rfl, hs4, hcx⟩ := hcut
            rename World => W6
            have HS9 := Lib.hid ((HS8.out.below hcx).more hcx.size)
            have HS6 := Lib.hid hs4
            have ga5 := ga.below hcx ga.lt
            have gt5 := gt.below hcx gt.lt
            have hw5 := bl2 hw hcx
            clear hcx ga gt hw
            (clear z0 z1 z2 z3 z4 z5 z6 z7 z8 z9 z10 u0 u1 u2 u3 u4)
            have ga := ga5
            have gt := gt5
            have hw := hw5
            clear ga5 gt5 hw5
            (have z0 := ga.cell 0; have z1 := ga.cell 1; have z2 := ga.cell 2; have z3 := ga.cell 3; have z4 := ga.cell 4; have z5 := ga.cell 5; have z6 := ga.cell 6; have z7 := ga.cell 7; have z8 := ga.cell 8; have z9 := ga.cell 9; have z10 := ga.cell 10; simp at z0 z1 z2 z3 z4 z5 z6 z7 z8 z9 z10; have u0 := gt.cell 0; have u1 := gt.cell 1; have u2 := gt.cell 2; have u3 := gt.cell 3; have u4 := gt.cell 4; simp at u0 u1 u2 u3 u4)
            clear HPN hs4 HS8
            go_upto_region 27 with fail
            have HW6 := Lib.hid hw
            clear hw ga gt
            (clear z0 z1 z2 z3 z4 z5 z6 z7 z8 z9 z10 u0 u1 u2 u3 u4)
            go_loopw [18] (fun s18 wr => ∃ i : Nat, i ≤ P2.length ∧ s18 = .int .i64 i ∧ Hid (∀ j, j < i → P2[j]? = (P.take (T - 1).toNat)[j]?) ∧ Hid (Below W6.heap.size W6 wr)) (fun s18 _ => P2.length - (intOf s18).toNat)
            case atStart => exact ⟨0, by omega, rfl, (fun j hj => absurd hj (by omega) : ∀ j, j < 0 → P2[j]? = (P.take (T - 1).toNat)[j]?), Below.refl _ _⟩
            case round =>
              obtain ⟨i, hi, rfl, HEQ, hb5⟩ := hrel
              have hw := bl2 HW6.out hb5.out
              have hP2b : P2.length ≤ 60 := by have := HL2.out; omega
              by_cases hlt : i < P2.length
              · obtain ⟨hb, hge⟩ := leL_at HLE.out i hlt HEQ.out
                have hiP : i < P.length := by rw [List.length_take] at hb; omega
                have hgt : (P.take (T - 1).toNat)[i] = P[i] := by simp
                rw [hgt] at hge
                obtain ⟨pb, po, rfl, hpb, hpc⟩ := (HS9.out.below hb5.out).int_at (k := i) hiP
                obtain ⟨lb, lo, rfl, hlb, hlc⟩ := (HS6.out.below hb5.out).int_at (k := i) hlt
                have HXI : Hid (P2[i] = P[i] → P2[i]? = (P.take (T - 1).toNat)[i]?) := (fun h => by
                  rw [List.getElem?_eq_getElem hlt, List.getElem?_eq_getElem hb, hgt, h] : P2[i] = P[i] → P2[i]? = (P.take (T - 1).toNat)[i]?)
                obtain ⟨xx, hxx⟩ : ∃ xx, xx = P[i] := ⟨_, rfl⟩
                obtain ⟨yy, hyy⟩ : ∃ yy, yy = P2[i] := ⟨_, rfl⟩
                rw [← hxx] at hpc hge HXI
                rw [← hyy] at hlc hge HXI
                have k0 : (0 : Int) ≤ (i : Int) := by omega
                have k1 : (i : Int) < (P.length : Int) := by omega
                have k2 : (i : Int) < (P2.length : Int) := by omega
                clear hxx hyy hb hgt
                go_upto_region 29 with fail
                by_cases hne : yy = xx
                · have e1 : (yy != xx) = false := by simpa using hne
                  have HEQ2 : Hid (∀ j, j < i + 1 → P2[j]? = (P.take (T - 1).toNat)[j]?) := (fun j hj => by
                    by_cases h : j < i
                    · exact HEQ.out j h
                    · obtain rfl : j = i := by omega
                      exact HXI.out hne : ∀ j, j < i + 1 → P2[j]? = (P.take (T - 1).toNat)[j]?)
                  clear hne hge
                  (refine wp_region_ext (by kernel_rfl) (by kernel_rfl) ?_; (repeat (go_big_quiet_step((fail)))); with_reducible refine wpQuiet_nil ?_; intro w1 hw1; have hb1 := ext_below hw1; clear hw1)
                  go_wp2_with fail
                  go_roundw
                  case rel => exact ⟨i + 1, by omega, by go_num, HEQ2, bl2 hb5.out hb1⟩
                  case measure => simp [intOf]; omega
                · have e1 : (yy != xx) = true := by simpa using hne
                  have e2 : decide (yy < xx) = true := decide_eq_true (by omega)
                  have HK := Lib.hid (fun W => known_any W)
                  have hpw : pb < wr.heap.size := by have := hb5.out.size; omega
                  have hlw : lb < wr.heap.size := by have := hb5.out.size; omega
                  clear hne hge HXI
                  (refine wp_region_ext (by kernel_rfl) (by kernel_rfl) ?_; (repeat (go_big_quiet_step((fail)))); with_reducible refine wpQuiet_nil ?_; intro w1 hw1; have hb1 := ext_below hw1; clear hw1)
                  have hw := bl2 hw hb1
                  have hpc := (hb1.cell (p := ⟨pb, po + i, none⟩) hpw).trans hpc
                  have hlc := (hb1.cell (p := ⟨lb, lo + i, none⟩) hlw).trans hlc
                  clear hb1
                  go_upto_region 30 with fail
                  (refine wp_region_ext (by kernel_rfl) (by kernel_rfl) ?_; (repeat (go_big_quiet_step((go_at_call 17; with_reducible exact Calls.ext_of (HK.out _))))); with_reducible refine wpQuiet_nil ?_; intro w1 hw1; have hb1 := ext_below hw1; clear hw1)
                  have hw := bl2 hw hb1
                  go_wp2_with fail
                  refine bodyPost_ret (v := .bool true) (by simp [results, Try.results11, go_sem]) rfl ?_
                  exact ⟨rfl, hw⟩
              · obtain rfl : i = P2.length := by omega
                go_wp2_with (go_at_call 17; refine (known_any _).mono ?_; rintro _ V1 ⟨rfl, hb1⟩; have hw := bl2 hw hb1)
                refine bodyPost_ret (v := .bool true) (by simp [results, Try.results11, go_sem]) rfl ?_
                exact ⟨rfl, hw⟩
end Go.Proofs.Ytfbnllmmoaialaa

/- almanac: the reference's Date. -/
import Derived.Test.YtfbnllmmoaialaaGreatZ24RfI
import Derived.Test.YtfbnllmmoaialaaGreatZ13As
import Derived.Test.YtfbnllmmoaialaaGreatZ21RfB
namespace Go.Proofs.YtfbnllmmoaialaaGreat
open Go.RowKit

set_option maxRecDepth 100000 in
set_option maxHeartbeats 4000000 in
theorem rdate_any (e b u d : Int) (w : World) (ok : SolOk ⟨e, b, u⟩) (d0 : 0 ≤ d) (d1 : d ≤ 1000000) :
    Calls Tryz.prog 58 #[.agg #[.int .i64 e, .int .i64 b, .int .i64 u], .int .i64 d] w fun en w' => en = .returned (.agg #[.int .i64 (solI ⟨e, b, u⟩ d).y, .int .i64 (solI ⟨e, b, u⟩ d).m, .int .i64 (solI ⟨e, b, u⟩ d).d]) ∧ Below w.heap.size w w' := by
  have HOK := Lib.hid ok
  have n02 : w.heap.size ≠ w.heap.size + 1 + 1 := by omega
  have n12 : w.heap.size + 1 ≠ w.heap.size + 1 + 1 := by omega
  have HZ := Lib.hid (begI_zero ok)
  go_enter Tryz.func58, Tryz.ntmps58
  go_upto_region 1 with fail
  refine gen_w (fun W => W.heap.size = w.heap.size + 1 + 1 ∧ Blk W w.heap.size #[.int .i64 e, .int .i64 b, .int .i64 u] 24 ∧ Blk W (w.heap.size + 1) #[.int .i64 0, .int .i64 0, .int .i64 0] 54 ∧ Below w.heap.size w W) ⟨by simp, (Blk.at_ rfl).alloc _, Blk.at_ (by simp), by (repeat (first | exact Below.refl _ _ | assumption | (refine Below.alloc ?_ (by first | omega | (simp; omega) | (simp; done)) _) | (refine Below.setCell ?_ (by first | omega | (simp; omega) | (simp; done)) _) | (refine Below.drew ?_) | (refine belowN ?_ _) | (refine Below.trans ?_ (Below.mono ‹Below _ _ _› (by first | omega | (simp; omega) | (simp; done))))))⟩ ?_
  rintro W1 ⟨hsz, g0, g1, hw⟩
  go_wp2_with fail
  go_loopw [1] (fun v wr => ∃ (y : Nat) (D : Int), v = .int .i64 D ∧ Hid (D = d - begI ⟨e, b, u⟩ y) ∧ 0 ≤ D ∧ y ≤ 2740 ∧ Hid (Below w.heap.size w wr) ∧ Blk wr w.heap.size #[.int .i64 e, .int .i64 b, .int .i64 u] 24 ∧ Blk wr (w.heap.size + 1) #[.int .i64 0, .int .i64 0, .int .i64 0] 54 ∧ Blk wr (w.heap.size + 1 + 1) #[.int .i64 y, .int .i64 1, .int .i64 0] 54)  (fun v _ => (intOf v).toNat)
  case atStart =>
    refine ⟨0, d, rfl, (by have := HZ.out; simp only [Int.natCast_zero]; omega : d = _), d0, by omega, ?_⟩
    exact ⟨hw.alloc hw.size _, g0.alloc _, g1.alloc _, Blk.at_ hsz.symm⟩
  case round =>
    obtain ⟨y, D, rfl, HD, hD0, hy, hbw, g0, g1, g2⟩ := hrel
    have hw := hbw.out
    have c0 := g0.cell 0; have c1 := g0.cell 1; have c2 := g0.cell 2; have s0 := g2.cell 0; have s1 := g2.cell 1; have s2 := g2.cell 2
    simp at c0 c1 c2 s0 s1 s2
    have f0 := g2.free 0; have f1 := g2.free 1; have f2 := g2.free 2
    have HY := Lib.hid (fun W => ryear_any e b u y W HOK.out (by omega) (by omega))
    have hNb := yearN_bd ⟨e, b, u⟩ y
    have HST := Lib.hid (begI_step HOK.out (y := (y : Int)) (by omega))
    have HBD := Lib.hid (begI_bd HOK.out y)
    obtain ⟨N, hN⟩ : ∃ N, N = yearN ⟨e, b, u⟩ y := ⟨_, rfl⟩
    rw [← hN] at HY hNb HST
    have HN := Lib.hid hN
    clear hN hbw
    by_cases hc : N ≤ D
    · have t1 : decide (N ≤ D) = true := by simpa using hc
      have hD1 : D ≤ 1000000 := by have := HD.out; have := HBD.out; omega
      have v1 : IntKind.i64.wrap (D - N) = D - N := IntWalk.i64_in _ ⟨by omega, by omega⟩
      have v2 : IntKind.i64.wrap ((y : Int) + 1) = (y : Int) + 1 := IntWalk.i64_in _ ⟨by omega, by omega⟩
      go_wp2_with (go_at_call 90; (with_reducible refine (HY.out _).mono ?_); rintro _ V1 ⟨rfl, hb1⟩; have hw := bl2 hw hb1; have g0 := g0.below hb1 g0.lt; have g1 := g1.below hb1 g1.lt; have g2 := g2.below hb1 g2.lt; have c0 := g0.cell 0; have c1 := g0.cell 1; have c2 := g0.cell 2; have s0 := g2.cell 0; have s1 := g2.cell 1; have s2 := g2.cell 2; simp at c0 c1 c2 s0 s1 s2; have f0 := g2.free 0; have f1 := g2.free 1; have f2 := g2.free 2)
      go_roundw
      case rel =>
        refine ⟨y + 1, D - N, rfl, (by have := HD.out; have := HST.out; rw [show ((y + 1 : Nat) : Int) = (y : Int) + 1 by omega]; omega : D - N = _), by omega, by have := HD.out; have := HBD.out; omega, ?_⟩
        refine ⟨hw.setCell (p := ⟨w.heap.size + 1 + 1, 0, none⟩) (by show w.heap.size ≤ w.heap.size + 1 + 1; omega) _, g0.far ⟨w.heap.size + 1 + 1, 0, none⟩ n02 _, g1.far ⟨w.heap.size + 1 + 1, 0, none⟩ n12 _, ?_⟩
        have h3 := g2.set 0 (.int .i64 ((y : Int) + 1))
        simpa using h3
      case measure => simp [intOf]; omega
    · have t1 : decide (N ≤ D) = false := by simpa using hc
      have HYI : Hid (yearI ⟨e, b, u⟩ d = y) := (by
        have h1 := HD.out; have h2 := HST.out
        exact yearI_is HOK.out (by omega) (by omega) hy : _ = y)
      go_upto_region 5 with (go_at_call 90; (with_reducible refine (HY.out _).mono ?_); rintro _ V1 ⟨rfl, hb1⟩; have hw := bl2 hw hb1; have g0 := g0.below hb1 g0.lt; have g1 := g1.below hb1 g1.lt; have g2 := g2.below hb1 g2.lt; have c0 := g0.cell 0; have c1 := g0.cell 1; have c2 := g0.cell 2; have s0 := g2.cell 0; have s1 := g2.cell 1; have s2 := g2.cell 2; simp at c0 c1 c2 s0 s1 s2; have f0 := g2.free 0; have f1 := g2.free 1; have f2 := g2.free 2)
      obtain ⟨X, hX⟩ : ∃ X, X = extraN ⟨e, b, u⟩ y := ⟨_, rfl⟩
      have HX := Lib.hid hX
      have HSM : Hid (D < (monL X).sum) := (by
        rw [monL_sum, hX]; have h1 := HST.out; unfold extraN; omega : D < _)
      clear hX t1 hc HST
      go_loopw [1] (fun v wr => ∃ (k : Nat) (D2 : Int), v = .int .i64 D2 ∧ Hid (D2 = D - ((monL X).take k).sum) ∧ 0 ≤ D2 ∧ k ≤ 11 ∧ Hid (Below w.heap.size w wr) ∧ Blk wr w.heap.size #[.int .i64 e, .int .i64 b, .int .i64 u] 24 ∧ Blk wr (w.heap.size + 1) #[.int .i64 0, .int .i64 0, .int .i64 0] 54 ∧ Blk wr (w.heap.size + 1 + 1) #[.int .i64 y, .int .i64 ((k : Int) + 1), .int .i64 0] 54)  (fun v _ => (intOf v).toNat)
      case atStart => exact ⟨0, D, rfl, (by simp : D = _), hD0, by omega, hw, g0, g1, g2⟩
      case round =>
        obtain ⟨k, D2, rfl, HD2, hD20, hk, hbw, g0, g1, g2⟩ := hrel
        have hw := hbw.out
        have c0 := g0.cell 0; have c1 := g0.cell 1; have c2 := g0.cell 2; have s0 := g2.cell 0; have s1 := g2.cell 1; have s2 := g2.cell 2
        simp at c0 c1 c2 s0 s1 s2
        have f0 := g2.free 0; have f1 := g2.free 1; have f2 := g2.free 2
        have hk12 : k < (monL X).length := by show k < 12; omega
        have HM := Lib.hid (fun W => rmonth_any e b u y ((k : Int) + 1) W HOK.out (by omega) (by omega))
        have HMN : Hid ((monL X)[k] = monthN ⟨e, b, u⟩ y ((k : Int) + 1)) := (by
          have h1 := HX.out
          subst h1
          exact monthN_at HOK.out (by omega) hk12 : (monL X)[k] = _)
        have hMb := monthN_bd ⟨e, b, u⟩ y ((k : Int) + 1)
        obtain ⟨MN, hMN⟩ : ∃ M, M = monthN ⟨e, b, u⟩ y ((k : Int) + 1) := ⟨_, rfl⟩
        rw [← hMN] at HM hMb HMN
        have hD21 : D2 ≤ 1000000 := by
          have h1 := HD2.out; have h2 := HD.out
          have h3 : 0 ≤ ((monL X).take k).sum := take_nn (monL_nn (by rw [HX.out]; exact (extra_bd2 HOK.out (by omega)).1)) k
          have h4 := HBD.out
          omega
        clear hMN hbw
        by_cases hc2 : MN ≤ D2
        · have t2 : decide (MN ≤ D2) = true := by simpa using hc2
          have v1 : IntKind.i64.wrap (D2 - MN) = D2 - MN := IntWalk.i64_in _ ⟨by omega, by omega⟩
          have v2 : IntKind.i64.wrap ((k : Int) + 1 + 1) = (k : Int) + 1 + 1 := IntWalk.i64_in _ ⟨by omega, by omega⟩
          have HS2 : Hid (((monL X).take (k + 1)).sum = ((monL X).take k).sum + MN) := (by
            rw [List.take_succ_eq_append_getElem hk12, List.sum_append, HMN.out]; simp : _ = _)
          have hk11 : k + 1 ≤ 11 := by
            by_cases h : k + 1 ≤ 11
            · exact h
            · have h12 : k + 1 = 12 := by omega
              have h1 := HS2.out; have h2 := HSM.out; have h3 := HD2.out
              rw [h12, show (monL X).take 12 = monL X from List.take_of_length_le (Nat.le_refl _)] at h1
              omega
          go_wp2_with (go_at_call 91; (with_reducible refine (HM.out _).mono ?_); rintro _ V1 ⟨rfl, hb1⟩; have hw := bl2 hw hb1; have g0 := g0.below hb1 g0.lt; have g1 := g1.below hb1 g1.lt; have g2 := g2.below hb1 g2.lt; have c0 := g0.cell 0; have c1 := g0.cell 1; have c2 := g0.cell 2; have s0 := g2.cell 0; have s1 := g2.cell 1; have s2 := g2.cell 2; simp at c0 c1 c2 s0 s1 s2; have f0 := g2.free 0; have f1 := g2.free 1; have f2 := g2.free 2)
          go_roundw
          case rel =>
            refine ⟨k + 1, D2 - MN, rfl, (by have := HD2.out; have := HS2.out; omega : D2 - MN = _), by omega, hk11, ?_⟩
            refine ⟨hw.setCell (p := ⟨w.heap.size + 1 + 1, 1, none⟩) (by show w.heap.size ≤ w.heap.size + 1 + 1; omega) _, g0.far ⟨w.heap.size + 1 + 1, 1, none⟩ n02 _, g1.far ⟨w.heap.size + 1 + 1, 1, none⟩ n12 _, ?_⟩
            have h3 := g2.set 1 (.int .i64 ((k : Int) + 1 + 1))
            rw [show ((k + 1 : Nat) : Int) = (k : Int) + 1 by omega]
            simpa using h3
          case measure => simp [intOf]; omega
        · have t2 : decide (MN ≤ D2) = false := by simpa using hc2
          have v1 : IntKind.i64.wrap (D2 + 1) = D2 + 1 := IntWalk.i64_in _ ⟨by omega, by omega⟩
          have HR : Hid (solI ⟨e, b, u⟩ d = ⟨(y : Int), (k : Int) + 1, D2 + 1⟩) := (by
            have h1 := HX.out
            subst h1
            exact solI_is HOK.out hy hk12 (by omega) (by rw [HMN.out]; omega) (by have := HD2.out; have := HD.out; omega) : _ = _)
          go_upto_region 8 with (go_at_call 91; (with_reducible refine (HM.out _).mono ?_); rintro _ V1 ⟨rfl, hb1⟩; have hw := bl2 hw hb1; have g0 := g0.below hb1 g0.lt; have g1 := g1.below hb1 g1.lt; have g2 := g2.below hb1 g2.lt; have c0 := g0.cell 0; have c1 := g0.cell 1; have c2 := g0.cell 2; have s0 := g2.cell 0; have s1 := g2.cell 1; have s2 := g2.cell 2; simp at c0 c1 c2 s0 s1 s2; have f0 := g2.free 0; have f1 := g2.free 1; have f2 := g2.free 2)
          have h0 := g1.free 0; have h1 := g1.free 1; have h2 := g1.free 2
          have k0 := g1.cell 0; have k1 := g1.cell 1; have k2 := g1.cell 2
          simp at k0 k1 k2
          go_wp2_with fail
          have hle3 : w.heap.size ≤ w.heap.size + 1 + 1 := by omega
          have hle2 : w.heap.size ≤ w.heap.size + 1 := by omega
          have g3 := blk3 (g1.far ⟨w.heap.size + 1 + 1, 2, none⟩ n12 (.int .i64 (D2 + 1))) (.int .i64 y) (.int .i64 ((k : Int) + 1)) (.int .i64 (D2 + 1))
          have hw3 := (((hw.setCell (p := ⟨w.heap.size + 1 + 1, 2, none⟩) hle3 (.int .i64 (D2 + 1))).setCell (p := ⟨w.heap.size + 1, 0, none⟩) hle2 (.int .i64 y)).setCell (p := ⟨w.heap.size + 1, 1, none⟩) hle2 (.int .i64 ((k : Int) + 1))).setCell (p := ⟨w.heap.size + 1, 2, none⟩) hle2 (.int .i64 (D2 + 1))
          generalize (((V1.setCell ⟨w.heap.size + 1 + 1, 2, none⟩ (.int .i64 (D2 + 1))).setCell ⟨w.heap.size + 1, 0, none⟩ (.int .i64 y)).setCell ⟨w.heap.size + 1, 1, none⟩ (.int .i64 ((k : Int) + 1))).setCell ⟨w.heap.size + 1, 2, none⟩ (.int .i64 (D2 + 1)) = W3 at g3 hw3 ⊢
          have q0 := g3.cell 0; have q1 := g3.cell 1; have q2 := g3.cell 2
          simp at q0 q1 q2
          refine bodyPost_ret (v := .agg #[.int .i64 y, .int .i64 ((k : Int) + 1), .int .i64 (D2 + 1)]) (by simp [results, Tryz.results58, go_sem, q0, q1, q2]) rfl ?_
          rw [HR.out]
          exact ⟨rfl, hw3⟩
end Go.Proofs.YtfbnllmmoaialaaGreat
namespace Go.Proofs.YtfbnllmmoaialaaGreat
open Go.RowKit

/-- a day with its dates -/
abbrev datesV (day : Int) (a : SDate) (b : LDate) : Array Value := #[.int .i64 day, .int .i64 a.y, .int .i64 a.m, .int .i64 a.d, .int .i64 b.y, .int .i64 b.m, .int .i64 b.d, .bool b.k]
theorem blk8 {W : World} {b t : Nat} {x0 x1 x2 x3 x4 x5 x6 x7 : Value} (h : Blk W b #[x0, x1, x2, x3, x4, x5, x6, x7] t) (y0 y1 y2 y3 y4 y5 y6 y7 : Value) : Blk ((((((((W.setCell ⟨b, 0, none⟩ y0).setCell ⟨b, 1, none⟩ y1).setCell ⟨b, 2, none⟩ y2).setCell ⟨b, 3, none⟩ y3).setCell ⟨b, 4, none⟩ y4).setCell ⟨b, 5, none⟩ y5).setCell ⟨b, 6, none⟩ y6).setCell ⟨b, 7, none⟩ y7) b #[y0, y1, y2, y3, y4, y5, y6, y7] t := by
  have := (((((((h.set 0 y0).set 1 y1).set 2 y2).set 3 y3).set 4 y4).set 5 y5).set 6 y6).set 7 y7
  simpa using this
theorem below8 {n b : Nat} {W0 W : World} {y0 y1 y2 y3 y4 y5 y6 y7 : Value} (h : Below n W0 W) (hb : n ≤ b) : Below n W0 ((((((((W.setCell ⟨b, 0, none⟩ y0).setCell ⟨b, 1, none⟩ y1).setCell ⟨b, 2, none⟩ y2).setCell ⟨b, 3, none⟩ y3).setCell ⟨b, 4, none⟩ y4).setCell ⟨b, 5, none⟩ y5).setCell ⟨b, 6, none⟩ y6).setCell ⟨b, 7, none⟩ y7) :=
  (((((((h.setCell (p := ⟨b, 0, none⟩) hb _).setCell (p := ⟨b, 1, none⟩) hb _).setCell (p := ⟨b, 2, none⟩) hb _).setCell (p := ⟨b, 3, none⟩) hb _).setCell (p := ⟨b, 4, none⟩) hb _).setCell (p := ⟨b, 5, none⟩) hb _).setCell (p := ⟨b, 6, none⟩) hb _).setCell (p := ⟨b, 7, none⟩) hb _
theorem rdate_v {e b u day xa xb xc : Int} (h : solI ⟨e, b, u⟩ day = ⟨xa, xb, xc⟩) (ok : SolOk ⟨e, b, u⟩) (d0 : 0 ≤ day) (d1 : day ≤ 1000000) (w : World) : Calls Tryz.prog 58 #[.agg #[.int .i64 e, .int .i64 b, .int .i64 u], .int .i64 day] w fun en w' => en = .returned (.agg #[.int .i64 xa, .int .i64 xb, .int .i64 xc]) ∧ Below w.heap.size w w' := by
  have h2 := rdate_any e b u day w ok d0 d1
  rw [h] at h2
  exact h2
theorem rmoon_v {d p f m y s l day xa xb xc : Int} {xk : Bool} (h : moonI ⟨d, p, f, m, y, s, l⟩ day = ⟨xa, xb, xc, xk⟩) (hs : lunB ⟨d, p, f, m, y, s, l⟩ = true) (d0 : 0 ≤ day) (d1 : day ≤ 1000000) (w : World) : Calls Tryz.prog 59 #[.agg #[.int .i64 d, .int .i64 p, .int .i64 f, .int .i64 m, .int .i64 y, .int .i64 s, .int .i64 l], .int .i64 day] w fun en w' => en = .returned (.agg #[.int .i64 xa, .int .i64 xb, .int .i64 xc, .bool xk]) ∧ Below w.heap.size w w' := by
  have h2 := rmoon_any d p f m y s l day w hs d0 d1
  rw [h] at h2
  exact h2
set_option maxRecDepth 100000 in
set_option maxHeartbeats 4000000 in
theorem rof_any (x : Alm) (day : Int) (w : World) (hx : almB x = true) (d0 : 0 ≤ day) (d1 : day ≤ 1000000) :
    Calls Tryz.prog 33 #[.agg x.cells.toArray, .int .i64 day] w fun e w' => e = .returned (.agg (datesV day (solI x.sol day) (moonI x.lun day))) ∧ Below w.heap.size w w' := by
  obtain ⟨A, c, l, ⟨e, b, u⟩, ⟨d, p, f, m, y, s, k⟩⟩ := x
  simp only [almB, Bool.and_eq_true, decide_eq_true_eq, List.all_eq_true] at hx
  obtain ⟨⟨-, hs⟩, hlu⟩ := hx
  simp only
  obtain ⟨⟨xa, xb, xc⟩, hso⟩ : ∃ z, solI ⟨e, b, u⟩ day = z := ⟨_, rfl⟩
  obtain ⟨⟨ya, yb, yc, yk⟩, hmo⟩ : ∃ z, moonI ⟨d, p, f, m, y, s, k⟩ day = z := ⟨_, rfl⟩
  rw [hso, hmo]
  have HS := Lib.hid (fun W => rdate_v hso (solB_iff.1 hs) d0 d1 W)
  have HM := Lib.hid (fun W => rmoon_v hmo hlu d0 d1 W)
  clear hso hmo hs hlu
  simp only [Alm.cells]
  go_enter Tryz.func33, Tryz.ntmps33
  go_upto_region 1 with fail
  refine gen_w (fun W => Blk W w.heap.size #[.slice A l.length c, .int .i64 e, .int .i64 b, .int .i64 u, .int .i64 d, .int .i64 p, .int .i64 f, .int .i64 m, .int .i64 y, .int .i64 s, .int .i64 k] 28 ∧ Blk W (w.heap.size + 1) #[.int .i64 0, .int .i64 0, .int .i64 0, .int .i64 0, .int .i64 0, .int .i64 0, .int .i64 0, .bool false] 78 ∧ Below w.heap.size w W) ⟨(Blk.at_ rfl).alloc _, Blk.at_ (by simp), by (repeat (first | exact Below.refl _ _ | assumption | (refine Below.alloc ?_ (by first | omega | (simp; omega) | (simp; done)) _) | (refine Below.setCell ?_ (by first | omega | (simp; omega) | (simp; done)) _) | (refine Below.drew ?_) | (refine belowN ?_ _) | (refine Below.trans ?_ (Below.mono ‹Below _ _ _› (by first | omega | (simp; omega) | (simp; done))))))⟩ ?_
  rintro V0 ⟨ga, g1, hw⟩
  (have z0 := ga.cell 0; have z1 := ga.cell 1; have z2 := ga.cell 2; have z3 := ga.cell 3; have z4 := ga.cell 4; have z5 := ga.cell 5; have z6 := ga.cell 6; have z7 := ga.cell 7; have z8 := ga.cell 8; have z9 := ga.cell 9; have z10 := ga.cell 10; simp at z0 z1 z2 z3 z4 z5 z6 z7 z8 z9 z10)
  refine wp_region_tail 10 (by kernel_rfl) (by kernel_rfl) ?_
  simp only [List.take_succ_cons, List.take_zero, List.drop_succ_cons, List.drop_zero]
  (repeat (go_big_quiet_step (first | (go_at_call 58; with_reducible exact Calls.ext_of (HS.out _)) | (go_at_call 59; with_reducible exact Calls.ext_of (HM.out _)))))
  with_reducible refine wpQuiet_nil ?_
  intro w3 hw3
  have hb3 := ext_below hw3
  clear hw3
  have hw := bl2 hw hb3
  have g1 := g1.below hb3 g1.lt
  have f0 := g1.free 0; have f1 := g1.free 1; have f2 := g1.free 2; have f3 := g1.free 3; have f4 := g1.free 4; have f5 := g1.free 5; have f6 := g1.free 6; have f7 := g1.free 7
  have k0 := g1.cell 0; have k1 := g1.cell 1; have k2 := g1.cell 2; have k3 := g1.cell 3; have k4 := g1.cell 4; have k5 := g1.cell 5; have k6 := g1.cell 6; have k7 := g1.cell 7
  simp at k0 k1 k2 k3 k4 k5 k6 k7
  go_wp2_with fail
  have g3 := blk8 g1 (.int .i64 day) (.int .i64 xa) (.int .i64 xb) (.int .i64 xc) (.int .i64 ya) (.int .i64 yb) (.int .i64 yc) (.bool yk)
  have hw3 := below8 (b := w.heap.size + 1) (y0 := .int .i64 day) (y1 := .int .i64 xa) (y2 := .int .i64 xb) (y3 := .int .i64 xc) (y4 := .int .i64 ya) (y5 := .int .i64 yb) (y6 := .int .i64 yc) (y7 := .bool yk) hw (by omega)
  generalize (((((((w3.setCell ⟨w.heap.size + 1, 0, none⟩ (.int .i64 day)).setCell ⟨w.heap.size + 1, 1, none⟩ (.int .i64 xa)).setCell ⟨w.heap.size + 1, 2, none⟩ (.int .i64 xb)).setCell ⟨w.heap.size + 1, 3, none⟩ (.int .i64 xc)).setCell ⟨w.heap.size + 1, 4, none⟩ (.int .i64 ya)).setCell ⟨w.heap.size + 1, 5, none⟩ (.int .i64 yb)).setCell ⟨w.heap.size + 1, 6, none⟩ (.int .i64 yc)).setCell ⟨w.heap.size + 1, 7, none⟩ (.bool yk) = W3 at g3 hw3 ⊢
  have q0 := g3.cell 0; have q1 := g3.cell 1; have q2 := g3.cell 2; have q3 := g3.cell 3; have q4 := g3.cell 4; have q5 := g3.cell 5; have q6 := g3.cell 6; have q7 := g3.cell 7
  simp at q0 q1 q2 q3 q4 q5 q6 q7
  refine bodyPost_ret (v := .agg #[.int .i64 day, .int .i64 xa, .int .i64 xb, .int .i64 xc, .int .i64 ya, .int .i64 yb, .int .i64 yc, .bool yk]) (by simp [results, Tryz.results33, go_sem, q0, q1, q2, q3, q4, q5, q6, q7]) rfl ?_
  exact ⟨rfl, hw3⟩
set_option maxRecDepth 100000 in
set_option maxHeartbeats 4000000 in
theorem rholds_any (x : Alm) (t : DTs) (day : Int) (w : World) (hx : almB x = true) (d0 : 0 ≤ day) (d1 : day ≤ 1000000) (hst : 0 ≤ t.set ∧ t.set < 18446744073709551616) (hT : tstB x.cycles t = true) (hcx : Sl Cyc.cells 2 w w.heap.size x.a x.cycles) :
    Calls Tryz.prog 89 #[.agg x.cells.toArray, tval t, .agg (datesV day (solI x.sol day) (moonI x.lun day))] w fun e w' => e = .returned (.bool (holdB x t day)) ∧ Below w.heap.size w w' := by
  have hX := hx
  obtain ⟨A, c, l, ⟨e, b, u⟩, ⟨d, p, f, m, y, s, k⟩⟩ := x
  obtain ⟨kd, wh, st, fr, to_⟩ := t
  simp only [almB, Bool.and_eq_true, decide_eq_true_eq, List.all_eq_true] at hx
  obtain ⟨⟨⟨-, hc⟩, hs⟩, hlu⟩ := hx
  simp only at hcx hT hst
  have HCX := Lib.hid hcx
  have hsb := solI_bd (solB_iff.1 hs) d0 d1
  have hmb := moonI_bd (lunB_iff.1 hlu) (d := day)
  have HH : ∀ v, v = holdB ⟨A, c, l, ⟨e, b, u⟩, ⟨d, p, f, m, y, s, k⟩⟩ ⟨kd, wh, st, fr, to_⟩ day → v = (if kd = 1 then (match l[wh.toNat]? with | some c => bitB st (posI c day).toNat | none => false)
    else if kd = 2 then bitB st (solI ⟨e, b, u⟩ day).m.toNat
    else if kd = 3 then bitB st (solI ⟨e, b, u⟩ day).d.toNat
    else if kd = 4 then bitB st (moonI ⟨d, p, f, m, y, s, k⟩ day).m.toNat
    else if kd = 5 then bitB st (moonI ⟨d, p, f, m, y, s, k⟩ day).d.toNat
    else if kd = 6 then (moonI ⟨d, p, f, m, y, s, k⟩ day).k
    else inB day fr to_) := fun v hv => hv.trans rfl
  obtain ⟨hv, hve⟩ : ∃ v, v = holdB ⟨A, c, l, ⟨e, b, u⟩, ⟨d, p, f, m, y, s, k⟩⟩ ⟨kd, wh, st, fr, to_⟩ day := ⟨_, rfl⟩
  have hH := HH hv hve
  rw [← hve]
  clear hve HH
  obtain ⟨⟨sy, sm, sd⟩, hso⟩ : ∃ z, z = solI ⟨e, b, u⟩ day := ⟨_, rfl⟩
  obtain ⟨⟨my, mm, md, mk⟩, hmo⟩ : ∃ z, z = moonI ⟨d, p, f, m, y, s, k⟩ day := ⟨_, rfl⟩
  rw [← hso] at hsb hH
  rw [← hmo] at hmb hH
  simp only
  rw [← hso, ← hmo]
  simp only at hsb hmb hH
  have HH := Lib.hid hH
  have HTT := Lib.hid hT
  have HCC := Lib.hid hc
  clear hso hmo hs hlu hX hH hT hc hcx
  obtain ⟨S, rfl⟩ := Int.eq_ofNat_of_zero_le hst.1
  have hS : S < 18446744073709551616 := by omega
  clear hst
  simp only [Alm.cells]
  go_enter Tryz.func89, Tryz.ntmps89
  go_upto_region 1 with fail
  refine gen_w (fun W => Blk W w.heap.size #[.slice A l.length c, .int .i64 e, .int .i64 b, .int .i64 u, .int .i64 d, .int .i64 p, .int .i64 f, .int .i64 m, .int .i64 y, .int .i64 s, .int .i64 k] 28 ∧ Blk W (w.heap.size + 1) #[.int .i64 kd, .int .i64 wh, .int .u64 S, .int .i64 fr, .int .i64 to_] 90 ∧ Blk W (w.heap.size + 1 + 1) #[.int .i64 day, .int .i64 sy, .int .i64 sm, .int .i64 sd, .int .i64 my, .int .i64 mm, .int .i64 md, .bool mk] 78 ∧ Below w.heap.size w W) ⟨((Blk.at_ rfl).alloc _).alloc _, (Blk.at_ (by simp)).alloc _, Blk.at_ (by simp), by (repeat (first | exact Below.refl _ _ | assumption | (refine Below.alloc ?_ (by first | omega | (simp; omega) | (simp; done)) _) | (refine Below.setCell ?_ (by first | omega | (simp; omega) | (simp; done)) _) | (refine Below.drew ?_) | (refine belowN ?_ _) | (refine Below.trans ?_ (Below.mono ‹Below _ _ _› (by first | omega | (simp; omega) | (simp; done))))))⟩ ?_
  rintro V0 ⟨ga, gt, gd, hw⟩
  have z0 := ga.cell 0
  have t0 := gt.cell 0; have t1 := gt.cell 1; have t2 := gt.cell 2; have t3 := gt.cell 3; have t4 := gt.cell 4
  have s0 := gd.cell 0; have s1 := gd.cell 1; have s2 := gd.cell 2; have s3 := gd.cell 3; have s4 := gd.cell 4; have s5 := gd.cell 5; have s6 := gd.cell 6; have s7 := gd.cell 7
  simp at z0 t0 t1 t2 t3 t4 s0 s1 s2 s3 s4 s5 s6 s7
  by_cases k1 : kd = 1
  · subst k1
    have hin : inB wh 0 ((l.length : Int) - 1) = true := by
      have h := HTT.out
      simp only [tstB, if_true, Bool.and_eq_true] at h
      exact h.1.1.1
    obtain ⟨i0, i1⟩ := inB_iff.1 hin
    obtain ⟨j, rfl⟩ := Int.eq_ofNat_of_zero_le i0
    have hj : j < l.length := by omega
    obtain ⟨ab, ao, rfl, hblk, hcell⟩ := (HCX.out.below hw).at_ (k := j) (fun _ => rfl) hj
    have hcy := HCC.out _ (List.getElem_mem hj)
    have HT0 : Hid (hv = bitB (S : Int) (posI l[j] day).toNat) := (by
      rw [HH.out]; simp only [if_true, Int.toNat_natCast, List.getElem?_eq_getElem hj] : hv = _)
    obtain ⟨q, hq⟩ : ∃ q, q = l[j] := ⟨_, rfl⟩
    rw [← hq] at hcell hcy HT0
    obtain ⟨ql, qs⟩ := q
    have e0 : V0.cell? ⟨ab, ao + j * 2, none⟩ = some (.int .i64 ql) := hcell 0 _ rfl
    have e1 : V0.cell? ⟨ab, ao + j * 2 + 1, none⟩ = some (.int .i64 qs) := hcell 1 _ rfl
    have HP := Lib.hid (fun W => rposition_any ql qs day W hcy d0 (by omega))
    have hpb := posI_bd hcy day
    obtain ⟨⟨l1, l2⟩, -⟩ := cycB_iff.1 hcy
    simp only at hpb l1 l2
    obtain ⟨P, hP⟩ : ∃ P, P = posI ⟨ql, qs⟩ day := ⟨_, rfl⟩
    rw [← hP] at HP hpb HT0
    obtain ⟨n, rfl⟩ := Int.eq_ofNat_of_zero_le hpb.1
    have j0 : (0 : Int) ≤ (j : Int) := by omega
    have j1 : (j : Int) < (l.length : Int) := by omega
    have hn64 : n < 64 := by omega
    have q1 := u64bit S n hS
    have HT : Hid (hv = (((S / 2 ^ n % 2 : Nat) : Int) == 1)) := (by rw [HT0.out, Int.toNat_natCast]; exact setB_bit : hv = _)
    clear hcell hq hcy hP HT0
    go_upto_region 5 with fail
    (refine wp_region_ext (by kernel_rfl) (by kernel_rfl) ?_; (repeat (go_big_quiet_step((go_at_call 101; with_reducible exact Calls.ext_of (HP.out _))))); with_reducible refine wpQuiet_nil ?_; intro w1 hw1; have hb1 := ext_below hw1; clear hw1)
    have hw := bl2 hw hb1
    have gt := gt.below hb1 gt.lt
    have t2 := gt.cell 2
    simp at t2
    go_wp2_with fail
    go_ret
    exact ⟨ret_bool HT.out.symm, hw⟩
  · have n1 : (kd == 1) = false := by simpa using k1
    by_cases k2 : kd = 2
    · subst k2
      obtain ⟨n, rfl⟩ := Int.eq_ofNat_of_zero_le (show 0 ≤ sm by omega)
      have hn64 : n < 64 := by omega
      have q1 := u64bit S n hS
      have HT : Hid (hv = (((S / 2 ^ n % 2 : Nat) : Int) == 1)) := (by rw [HH.out]; simp only [Int.reduceEq, if_true, if_false, Int.toNat_natCast]; exact setB_bit : hv = _)
      go_wp2_with fail
      go_ret
      exact ⟨ret_bool HT.out.symm, hw⟩
    · have n2 : (kd == 2) = false := by simpa using k2
      by_cases k3 : kd = 3
      · subst k3
        obtain ⟨n, rfl⟩ := Int.eq_ofNat_of_zero_le (show 0 ≤ sd by omega)
        have hn64 : n < 64 := by omega
        have q1 := u64bit S n hS
        have HT : Hid (hv = (((S / 2 ^ n % 2 : Nat) : Int) == 1)) := (by rw [HH.out]; simp only [Int.reduceEq, if_true, if_false, Int.toNat_natCast]; exact setB_bit : hv = _)
        go_wp2_with fail
        go_ret
        exact ⟨ret_bool HT.out.symm, hw⟩
      · have n3 : (kd == 3) = false := by simpa using k3
        by_cases k4 : kd = 4
        · subst k4
          obtain ⟨n, rfl⟩ := Int.eq_ofNat_of_zero_le (show 0 ≤ mm by omega)
          have hn64 : n < 64 := by omega
          have q1 := u64bit S n hS
          have HT : Hid (hv = (((S / 2 ^ n % 2 : Nat) : Int) == 1)) := (by rw [HH.out]; simp only [Int.reduceEq, if_true, if_false, Int.toNat_natCast]; exact setB_bit : hv = _)
          go_wp2_with fail
          go_ret
          exact ⟨ret_bool HT.out.symm, hw⟩
        · have n4 : (kd == 4) = false := by simpa using k4
          by_cases k5 : kd = 5
          · subst k5
            obtain ⟨n, rfl⟩ := Int.eq_ofNat_of_zero_le (show 0 ≤ md by omega)
            have hn64 : n < 64 := by omega
            have q1 := u64bit S n hS
            have HT : Hid (hv = (((S / 2 ^ n % 2 : Nat) : Int) == 1)) := (by rw [HH.out]; simp only [Int.reduceEq, if_true, if_false, Int.toNat_natCast]; exact setB_bit : hv = _)
            go_wp2_with fail
            go_ret
            exact ⟨ret_bool HT.out.symm, hw⟩
          · have n5 : (kd == 5) = false := by simpa using k5
            by_cases k6 : kd = 6
            · subst k6
              have HT : Hid (hv = mk) := (by rw [HH.out]; simp : hv = mk)
              go_wp2_with fail
              go_ret
              exact ⟨ret_bool HT.out.symm, hw⟩
            · have n6 : (kd == 6) = false := by simpa using k6
              have HT : Hid (hv = inB day fr to_) := (by rw [HH.out, if_neg k1, if_neg k2, if_neg k3, if_neg k4, if_neg k5, if_neg k6] : hv = _)
              have HI := Lib.hid (fun W => rin_any day fr to_ W)
              obtain ⟨v, hv2⟩ : ∃ v, v = inB day fr to_ := ⟨_, rfl⟩
              rw [← hv2] at HI HT
              clear hv2 k1 k2 k3 k4 k5 k6
              go_wp2_with (go_at_call 31; (with_reducible refine (HI.out _).mono ?_); rintro _ _ ⟨rfl, rfl⟩)
              go_ret
              exact ⟨ret_bool HT.out.symm, hw⟩
end Go.Proofs.YtfbnllmmoaialaaGreat

/- odds: Either. -/
import Derived.Test.YtiikkcifdhcejaaZ16Pr
namespace Go.Proofs.Ytiikkcifdhcejaa
open Go.RowKit

theorem Blk.drew {W : World} {b t : Nat} {cs : Array Value} (h : Blk W b cs t) : Blk W.drew b cs t := h
theorem Blk.set2 {W : World} {b t : Nat} {x y : Value} (h : Blk W b #[x, y] t) (u v : Value) : Blk ((W.setCell ⟨b, 0, none⟩ u).setCell ⟨b, 1, none⟩ v) b #[u, v] t := by
  have := (h.set 0 u).set 1 v
  simpa using this
theorem below_set2 {n b : Nat} {W W' : World} (h : Below n W W') (hb : n ≤ b) (u v : Value) : Below n W ((W'.setCell ⟨b, 0, none⟩ u).setCell ⟨b, 1, none⟩ v) :=
  (h.setCell (p := ⟨b, 0, none⟩) hb _).setCell (p := ⟨b, 1, none⟩) hb _
theorem lay {P G : Prop} (h : P) (k : P → G) : G := k h
theorem wrapI {a : Int} (h0 : -9223372036854775808 ≤ a) (h1 : a ≤ 9223372036854775807) : IntKind.i64.wrap a = a := by rw [IntKind.wrap_i64]; omega
theorem cmp_gt {x y : Int} : decide (0 < cmpI x y) = decide (y < x) := by
  unfold cmpI; (repeat' split) <;> simp <;> omega
set_option maxRecDepth 100000 in
set_option maxHeartbeats 10000000 in
theorem either_main (n d p q g P Q X3 X4 _N rm H K NH hi lo x y z : Int) (res : Int × Int × Int) (w : World)
    (HI : Hid (∀ (W : World) (k : Nat), k = W.heap.size → Calls Try.prog 63 #[.slice (some ⟨k, 0, none⟩) 2 2] (W.alloc (.cells #[.int .i64 n, .int .i64 d, .int .i64 p, .int .i64 q] 27)) fun e w' => e = .returned (.bool true) ∧ Below W.heap.size W w'))
    (HT1 : Hid (∀ w : World, Calls Try.prog 64 #[.int .i64 n, .int .i64 q] w fun e w' => e = .returned (wideV x) ∧ Below w.heap.size w w'))
    (HT2 : Hid (∀ w : World, Calls Try.prog 64 #[.int .i64 (q - p), .int .i64 d] w fun e w' => e = .returned (wideV y) ∧ Below w.heap.size w w'))
    (HWC : Hid (∀ w : World, Calls Try.prog 65 #[wideV x, wideV y] w fun e w' => e = .returned (.int .i64 z) ∧ Below w.heap.size w w'))
    (hgt : decide (0 < z) = false)
    (HG : Hid (∀ (W : World) (k : Nat), k = W.heap.size → Calls Try.prog 67 #[.slice (some ⟨k, 0, none⟩) 2 2] (W.alloc (.cells #[.int .i64 d, .int .i64 q] 3)) fun e w' => e = .returned (.int .i64 g) ∧ Below W.heap.size W w'))
    (HT3 : Hid (∀ w : World, Calls Try.prog 64 #[.int .i64 n, .int .i64 Q] w fun e w' => e = .returned (wideV X3) ∧ Below w.heap.size w w'))
    (HT4 : Hid (∀ w : World, Calls Try.prog 64 #[.int .i64 p, .int .i64 P] w fun e w' => e = .returned (wideV X4) ∧ Below w.heap.size w w'))
    (HPL : Hid (∀ w : World, Calls Try.prog 68 #[wideV X3, wideV X4] w fun e w' => e = .returned (.agg #[.int .u64 hi, .int .u64 lo]) ∧ Below w.heap.size w w'))
    (HM : Hid (∀ w : World, Calls Try.prog 69 #[.agg #[.int .u64 hi, .int .u64 lo], .int .i64 g] w fun e w' => e = .returned (.int .i64 rm) ∧ Below w.heap.size w w'))
    (HG2 : Hid (∀ (W : World) (k : Nat), k = W.heap.size → Calls Try.prog 67 #[.slice (some ⟨k, 0, none⟩) 2 2] (W.alloc (.cells #[.int .i64 rm, .int .i64 g] 3)) fun e w' => e = .returned (.int .i64 H) ∧ Below W.heap.size W w'))
    (HS1 : Hid (∀ w : World, Calls Try.prog 70 #[.int .i64 P, .int .i64 Q] w fun e w' => e = .returned (.bool (smallB P Q)) ∧ w = w'))
    (HS2 : Hid (∀ w : World, P * Q ≤ 9223372036854775807 → Calls Try.prog 70 #[.int .i64 (P * Q), .int .i64 K] w fun e w' => e = .returned (.bool (smallB (P * Q) K)) ∧ w = w'))
    (HO : Hid (∀ w : World, hi < H → NH ≤ 9223372036854775807 → Calls Try.prog 71 #[.agg #[.int .u64 hi, .int .u64 lo], .int .i64 H] w fun e w' => e = .returned (.int .i64 NH) ∧ Below w.heap.size w w'))
    (HFIT : Hid (P * Q * K ≤ 1000000000000000 → NH ≤ 1000000000000000 ∧ hi < H))
    (HE2 : Hid (res = if P * Q ≤ 1000000000000000 ∧ P * Q * K ≤ 1000000000000000 then (NH, P * Q * K, 0) else (0, 0, 10)))
    (eqP : d / g = P) (eqQ : q / g = Q) (eqK : g / H = K) (o1 : 1 ≤ d) (o2 : d ≤ 1000000000000000) (_o3 : 0 ≤ n) (_o4 : n ≤ d) (o5 : 1 ≤ q) (o6 : q ≤ 1000000000000000) (o7 : 0 ≤ p) (o8 : p ≤ q)
    (x1 : 1 ≤ g) (x2 : g ≤ 1000000000000000) (_x3 : 1 ≤ P) (_x4 : P ≤ 1000000000000000) (_x5 : 1 ≤ Q) (_x6 : Q ≤ 1000000000000000) (x9 : 1 ≤ H) (x11 : 1 ≤ K) (x12 : K ≤ 1000000000000000) (pq0 : 0 ≤ P * Q) :
    Calls Try.prog 36 #[.agg #[.int .i64 n, .int .i64 d], .agg #[.int .i64 p, .int .i64 q]] w (RetC res w) := by
  have g00 : g ≠ 0 := by omega
  have H00 : H ≠ 0 := by omega
  by_cases s1 : P * Q ≤ 1000000000000000
  · by_cases s2 : P * Q * K ≤ 1000000000000000
    · have HT : Hid (res = (NH, P * Q * K, 0)) := (by have := HE2.out; rw [if_pos ⟨s1, s2⟩] at this; exact this : res = _)
      obtain ⟨k1, k2⟩ := HFIT.out s2
      have hk1 : NH ≤ 9223372036854775807 := by omega
      have eV : IntKind.i64.wrap (IntKind.i64.wrap (P * Q) * IntKind.i64.wrap (g.tdiv H)) = P * Q * K := by
        rw [Int.tdiv_eq_ediv_of_nonneg (by omega), eqK, wrapI (a := P * Q) (by omega) (by omega), wrapI (a := K) (by omega) (by omega), wrapI (by have := Int.mul_nonneg pq0 (show 0 ≤ K by omega); omega) (by omega)]
      rw [smallB_true s1] at HS1
      rw [smallB_true s2] at HS2
      have pk0 := Int.mul_nonneg pq0 (show 0 ≤ K by omega)
      clear HE2 HFIT
      go_enter Try.func36, Try.ntmps36
      go_upto_region 4 with (go_at_call 63; refine (HI.out _ _ (by first | omega | (simp; omega) | (simp; done))).mono ?_; rintro _ w1 ⟨rfl, hb1⟩; have g0 : Blk w1 w.heap.size #[.int .i64 n, .int .i64 d] 27 := (((Blk.at_ rfl).alloc _).alloc _).below hb1 (by first | omega | (simp; omega) | (simp; done)); have g1 : Blk w1 (w.heap.size + 1) #[.int .i64 p, .int .i64 q] 27 := ((Blk.at_ (by simp)).alloc _).below hb1 (by first | omega | (simp; omega) | (simp; done)); have g2 : Blk w1 (w.heap.size + 1 + 1) #[.int .i64 0, .int .i64 0] 27 := (Blk.at_ (by simp)).below hb1 (by first | omega | (simp; omega) | (simp; done)); have hz := g2.lt; have c0 := g0.cell 0; have c1 := g0.cell 1; have c2 := g1.cell 0; have c3 := g1.cell 1; have hw1 : Below w.heap.size w w1 := (by (repeat (first | exact Below.refl _ _ | assumption | (refine Below.alloc ?_ (by first | omega | (simp; omega) | (simp; done)) _) | (refine Below.setCell ?_ (by first | omega | (simp; omega) | (simp; done)) _) | (refine Below.drew ?_) | (refine belowN ?_ _) | (refine Below.trans ?_ (Below.mono ‹Below _ _ _› (by first | omega | (simp; omega) | (simp; done))))))); simp at c0 c1 c2 c3)
      obtain ⟨B3, hB3⟩ : ∃ B, B = w1.heap.size := ⟨_, rfl⟩
      have hB4 : w.heap.size + 1 + 1 < B3 := by omega
      refine gen_w (fun W => Blk W w.heap.size #[.int .i64 n, .int .i64 d] 27 ∧ Blk W (w.heap.size + 1) #[.int .i64 p, .int .i64 q] 27 ∧ Blk W (w.heap.size + 1 + 1) #[.int .i64 0, .int .i64 0] 27 ∧ Blk W B3 #[.int .i64 (q - p), .int .i64 q] 27 ∧ Below w.heap.size w W) ⟨g0.alloc _, g1.alloc _, g2.alloc _, Blk.at_ hB3, by (repeat (first | exact Below.refl _ _ | assumption | (refine Below.alloc ?_ (by first | omega | (simp; omega) | (simp; done)) _) | (refine Below.setCell ?_ (by first | omega | (simp; omega) | (simp; done)) _) | (refine Below.drew ?_) | (refine belowN ?_ _) | (refine Below.trans ?_ (Below.mono ‹Below _ _ _› (by first | omega | (simp; omega) | (simp; done))))))⟩ ?_
      rw [← hB3]
      clear hB3 g0 g1 g2 hz c0 c1 c2 c3 hw1 hb1
      clear w1
      rintro w1 ⟨g0, g1, g2, g3, hw1⟩
      have g0b := g0; have g1b := g1; have g2b := g2; have g3b := g3
      have hz := g3.lt; have c0 := g0.cell 0; have c1 := g0.cell 1; have c2 := g1.cell 0; have c3 := g1.cell 1; have c4 := g2.cell 0; have c5 := g2.cell 1; have c6 := g3.cell 0; have c7 := g3.cell 1; have f0 := g2.free 0; have f1 := g2.free 1; simp at c0 c1 c2 c3 c4 c5 c6 c7
      go_region_held (fun W' => W'.cell? ⟨w.heap.size, 0, none⟩ = some (.int .i64 n) ∧ W'.cell? ⟨w.heap.size, 1, none⟩ = some (.int .i64 d) ∧ W'.cell? ⟨B3, 0, none⟩ = some (.int .i64 (q - p)) ∧ W'.cell? ⟨B3, 1, none⟩ = some (.int .i64 q)) (exact ⟨c0, c1, c6, c7⟩)
        (first | (go_at_call 65; have _ := hx3; (with_reducible refine (HWC.out _).mono ?_); rintro _ w4 ⟨rfl, hb4⟩; have hx4 : Below w1.heap.size w1 w4 := bl2 hx3 (Below.trans (by (repeat (first | exact Below.refl _ _ | assumption | (refine Below.alloc ?_ (by first | omega | (simp; omega) | (simp; done)) _) | (refine Below.setCell ?_ (by first | omega | (simp; omega) | (simp; done)) _) | (refine Below.drew ?_) | (refine belowN ?_ _) | (refine Below.trans ?_ (Below.mono ‹Below _ _ _› (by first | omega | (simp; omega) | (simp; done))))))) (hb4.mono (by simp))); have g0 := g0b.below hx4 g0b.lt; have g1 := g1b.below hx4 g1b.lt; have g2 := g2b.below hx4 g2b.lt; have g3 := g3b.below hx4 g3b.lt; have hz := g3.lt; have c0 := g0.cell 0; have c1 := g0.cell 1; have c2 := g1.cell 0; have c3 := g1.cell 1; have c4 := g2.cell 0; have c5 := g2.cell 1; have c6 := g3.cell 0; have c7 := g3.cell 1; have f0 := g2.free 0; have f1 := g2.free 1; simp at c0 c1 c2 c3 c4 c5 c6 c7) |
          (go_at_call 64; have _ := hx2; (with_reducible refine (HT2.out _).mono ?_); rintro _ w3 ⟨rfl, hb3⟩; have hx3 : Below w1.heap.size w1 w3 := bl2 hx2 (Below.trans (by (repeat (first | exact Below.refl _ _ | assumption | (refine Below.alloc ?_ (by first | omega | (simp; omega) | (simp; done)) _) | (refine Below.setCell ?_ (by first | omega | (simp; omega) | (simp; done)) _) | (refine Below.drew ?_) | (refine belowN ?_ _) | (refine Below.trans ?_ (Below.mono ‹Below _ _ _› (by first | omega | (simp; omega) | (simp; done))))))) (hb3.mono (by simp))); have g0 := g0b.below hx3 g0b.lt; have g1 := g1b.below hx3 g1b.lt; have g2 := g2b.below hx3 g2b.lt; have g3 := g3b.below hx3 g3b.lt; have hz := g3.lt; have c0 := g0.cell 0; have c1 := g0.cell 1; have c2 := g1.cell 0; have c3 := g1.cell 1; have c4 := g2.cell 0; have c5 := g2.cell 1; have c6 := g3.cell 0; have c7 := g3.cell 1; have f0 := g2.free 0; have f1 := g2.free 1; simp at c0 c1 c2 c3 c4 c5 c6 c7) |
          (go_at_call 64; (with_reducible refine (HT1.out _).mono ?_); rintro _ w2 ⟨rfl, hb2⟩; have hx2 : Below w1.heap.size w1 w2 := Below.trans (by (repeat (first | exact Below.refl _ _ | assumption | (refine Below.alloc ?_ (by first | omega | (simp; omega) | (simp; done)) _) | (refine Below.setCell ?_ (by first | omega | (simp; omega) | (simp; done)) _) | (refine Below.drew ?_) | (refine belowN ?_ _) | (refine Below.trans ?_ (Below.mono ‹Below _ _ _› (by first | omega | (simp; omega) | (simp; done))))))) (hb2.mono (by simp)); have g0 := g0b.below hx2 g0b.lt; have g1 := g1b.below hx2 g1b.lt; have g2 := g2b.below hx2 g2b.lt; have g3 := g3b.below hx2 g3b.lt; have hz := g3.lt; have c0 := g0.cell 0; have c1 := g0.cell 1; have c2 := g1.cell 0; have c3 := g1.cell 1; have c4 := g2.cell 0; have c5 := g2.cell 1; have c6 := g3.cell 0; have c7 := g3.cell 1; have f0 := g2.free 0; have f1 := g2.free 1; simp at c0 c1 c2 c3 c4 c5 c6 c7))
      have hw4 := bl2 hw1 hx4
      all_goals (
        go_upto_region 7 with (go_at_call 67; refine (HG.out _ _ (by first | omega | (simp; omega) | (simp; done))).mono ?_; rintro _ w5 ⟨rfl, hb5⟩; have hw5 : Below w.heap.size w w5 := bl2 hw4 (Below.trans (by (repeat (first | exact Below.refl _ _ | assumption | (refine Below.alloc ?_ (by first | omega | (simp; omega) | (simp; done)) _) | (refine Below.setCell ?_ (by first | omega | (simp; omega) | (simp; done)) _) | (refine Below.drew ?_) | (refine belowN ?_ _) | (refine Below.trans ?_ (Below.mono ‹Below _ _ _› (by first | omega | (simp; omega) | (simp; done))))))) (hb5.mono (by simp))); have hx5 : Below w4.heap.size w4 w5 := Below.trans (by (repeat (first | exact Below.refl _ _ | assumption | (refine Below.alloc ?_ (by first | omega | (simp; omega) | (simp; done)) _) | (refine Below.setCell ?_ (by first | omega | (simp; omega) | (simp; done)) _) | (refine Below.drew ?_) | (refine belowN ?_ _) | (refine Below.trans ?_ (Below.mono ‹Below _ _ _› (by first | omega | (simp; omega) | (simp; done))))))) (hb5.mono (by simp)); have g0 := g0.below hx5 g0.lt; have g1 := g1.below hx5 g1.lt; have g2 := g2.below hx5 g2.lt; have hz := g2.lt; have c0 := g0.cell 0; have c1 := g0.cell 1; have c2 := g1.cell 0; have c3 := g1.cell 1; have c4 := g2.cell 0; have c5 := g2.cell 1; have f0 := g2.free 0; have f1 := g2.free 1; simp at c0 c1 c2 c3 c4 c5)
        go_region
        all_goals (
          go_upto_region 8 with fail
          rw [eqP, eqQ]
          refine gen_w (fun W => Blk W w.heap.size #[.int .i64 n, .int .i64 d] 27 ∧ Blk W (w.heap.size + 1) #[.int .i64 p, .int .i64 q] 27 ∧ Blk W (w.heap.size + 1 + 1) #[.int .i64 0, .int .i64 0] 27 ∧ Below w.heap.size w W) ⟨g0, g1, g2, by (repeat (first | exact Below.refl _ _ | assumption | (refine Below.alloc ?_ (by first | omega | (simp; omega) | (simp; done)) _) | (refine Below.setCell ?_ (by first | omega | (simp; omega) | (simp; done)) _) | (refine Below.drew ?_) | (refine belowN ?_ _) | (refine Below.trans ?_ (Below.mono ‹Below _ _ _› (by first | omega | (simp; omega) | (simp; done))))))⟩ ?_
          clear g0 g1 g2 g3 hz c0 c1 c2 c3 c4 c5 f0 f1 hw4 hw5 hx5 hb5
          clear w5
          rintro w5 ⟨g0, g1, g2, hw5⟩
          have g0b := g0; have g1b := g1; have g2b := g2
          have hz := g2.lt; have c0 := g0.cell 0; have c1 := g0.cell 1; have c2 := g1.cell 0; have c3 := g1.cell 1; have c4 := g2.cell 0; have c5 := g2.cell 1; have f0 := g2.free 0; have f1 := g2.free 1; simp at c0 c1 c2 c3 c4 c5
          go_cut [10] (fun s10 wx => ∃ u : Nat, s10 = .pointer (some ⟨u, 0, none⟩) ∧ Blk wx u #[.int .u64 hi, .int .u64 lo] 108 ∧ Below w5.heap.size w5 wx ∧ w5.heap.size ≤ u)
          case first =>
            as_aux_lemma =>
              have nz1 : w5.heap.size ≠ w.heap.size ∧ w5.heap.size ≠ w.heap.size + 1 := ⟨by omega, by omega⟩
              go_region_held (fun W' => W'.cell? ⟨w.heap.size, 0, none⟩ = some (.int .i64 n) ∧ W'.cell? ⟨w.heap.size + 1, 0, none⟩ = some (.int .i64 p)) (first | exact ⟨c0, c2⟩ | go_keep)
                (first | (go_at_call 68; have _ := hx7; (with_reducible refine (HPL.out _).mono ?_); rintro _ w8 ⟨rfl, hb8⟩; have hx8 : Below w5.heap.size w5 w8 := bl2 hx7 (Below.trans (by (repeat (first | exact Below.refl _ _ | assumption | (refine Below.alloc ?_ (by first | omega | (simp; omega) | (simp; done)) _) | (refine Below.setCell ?_ (by first | omega | (simp; omega) | (simp; done)) _) | (refine Below.drew ?_) | (refine belowN ?_ _) | (refine Below.trans ?_ (Below.mono ‹Below _ _ _› (by first | omega | (simp; omega) | (simp; done))))))) (hb8.mono (by simp))); have g0 := g0b.below hx8 g0b.lt; have g1 := g1b.below hx8 g1b.lt; have g2 := g2b.below hx8 g2b.lt; have hz := g2.lt; have c0 := g0.cell 0; have c1 := g0.cell 1; have c2 := g1.cell 0; have c3 := g1.cell 1; have c4 := g2.cell 0; have c5 := g2.cell 1; have f0 := g2.free 0; have f1 := g2.free 1; simp at c0 c1 c2 c3 c4 c5; have nz4 : w8.heap.size ≠ w.heap.size ∧ w8.heap.size ≠ w.heap.size + 1 := ⟨by omega, by omega⟩; (try (refine lay (Blk.below za hb8 ?_) ?_; (focus (first | omega | (simp; omega) | (simp; done))); intro za; have zal := za.lt; have za0 := za.cell 0; have za1 := za.cell 1; have za2 := za.free 0; have za3 := za.free 1; simp at za0 za1)); (try (refine lay (Blk.below zb hb8 ?_) ?_; (focus (first | omega | (simp; omega) | (simp; done))); intro zb; have zbl := zb.lt; have zb0 := zb.cell 0; have zb1 := zb.cell 1; have zb2 := zb.free 0; have zb3 := zb.free 1; simp at zb0 zb1)); (try (refine lay (P := Blk w8 w7.heap.size #[.int .u64 0, .int .u64 0] 108) ?_ ?_; (focus (refine Blk.below ?_ hb8 ?_; (focus (first | exact Blk.new _ _ _ | exact Blk.drew (Blk.new _ _ _))); (focus (first | omega | (simp; omega) | (simp; done))))); intro zc; have zcl := zc.lt; have zc0 := zc.cell 0; have zc1 := zc.cell 1; have zc2 := zc.free 0; have zc3 := zc.free 1; simp at zc0 zc1))) |
                  (go_at_call 64; have _ := hx6; (with_reducible refine (HT4.out _).mono ?_); rintro _ w7 ⟨rfl, hb7⟩; have hx7 : Below w5.heap.size w5 w7 := bl2 hx6 (Below.trans (by (repeat (first | exact Below.refl _ _ | assumption | (refine Below.alloc ?_ (by first | omega | (simp; omega) | (simp; done)) _) | (refine Below.setCell ?_ (by first | omega | (simp; omega) | (simp; done)) _) | (refine Below.drew ?_) | (refine belowN ?_ _) | (refine Below.trans ?_ (Below.mono ‹Below _ _ _› (by first | omega | (simp; omega) | (simp; done))))))) (hb7.mono (by simp))); have g0 := g0b.below hx7 g0b.lt; have g1 := g1b.below hx7 g1b.lt; have g2 := g2b.below hx7 g2b.lt; have hz := g2.lt; have c0 := g0.cell 0; have c1 := g0.cell 1; have c2 := g1.cell 0; have c3 := g1.cell 1; have c4 := g2.cell 0; have c5 := g2.cell 1; have f0 := g2.free 0; have f1 := g2.free 1; simp at c0 c1 c2 c3 c4 c5; have nz3 : w7.heap.size ≠ w.heap.size ∧ w7.heap.size ≠ w.heap.size + 1 := ⟨by omega, by omega⟩; (try (refine lay (Blk.below za hb7 ?_) ?_; (focus (first | omega | (simp; omega) | (simp; done))); intro za; have zal := za.lt; have za0 := za.cell 0; have za1 := za.cell 1; have za2 := za.free 0; have za3 := za.free 1; simp at za0 za1)); (try (refine lay (P := Blk w7 w6.heap.size #[.int .u64 0, .int .u64 0] 108) ?_ ?_; (focus (refine Blk.below ?_ hb7 ?_; (focus (first | exact Blk.new _ _ _ | exact Blk.drew (Blk.new _ _ _))); (focus (first | omega | (simp; omega) | (simp; done))))); intro zb; have zbl := zb.lt; have zb0 := zb.cell 0; have zb1 := zb.cell 1; have zb2 := zb.free 0; have zb3 := zb.free 1; simp at zb0 zb1))) |
                  (go_at_call 64; (with_reducible refine (HT3.out _).mono ?_); rintro _ w6 ⟨rfl, hb6⟩; have hx6 : Below w5.heap.size w5 w6 := Below.trans (by (repeat (first | exact Below.refl _ _ | assumption | (refine Below.alloc ?_ (by first | omega | (simp; omega) | (simp; done)) _) | (refine Below.setCell ?_ (by first | omega | (simp; omega) | (simp; done)) _) | (refine Below.drew ?_) | (refine belowN ?_ _) | (refine Below.trans ?_ (Below.mono ‹Below _ _ _› (by first | omega | (simp; omega) | (simp; done))))))) (hb6.mono (by simp)); have g0 := g0b.below hx6 g0b.lt; have g1 := g1b.below hx6 g1b.lt; have g2 := g2b.below hx6 g2b.lt; have hz := g2.lt; have c0 := g0.cell 0; have c1 := g0.cell 1; have c2 := g1.cell 0; have c3 := g1.cell 1; have c4 := g2.cell 0; have c5 := g2.cell 1; have f0 := g2.free 0; have f1 := g2.free 1; simp at c0 c1 c2 c3 c4 c5; have nz2 : w6.heap.size ≠ w.heap.size ∧ w6.heap.size ≠ w.heap.size + 1 := ⟨by omega, by omega⟩; (try (refine lay (P := Blk w6 w5.heap.size #[.int .u64 0, .int .u64 0] 108) ?_ ?_; (focus (refine Blk.below ?_ hb6 ?_; (focus (first | exact Blk.new _ _ _ | exact Blk.drew (Blk.new _ _ _))); (focus (first | omega | (simp; omega) | (simp; done))))); intro za; have zal := za.lt; have za0 := za.cell 0; have za1 := za.cell 1; have za2 := za.free 0; have za3 := za.free 1; simp at za0 za1))))
              all_goals (
                go_wp2_with fail
                go_meet
                first |
                  exact ⟨_, rfl, Blk.set2 za _ _, below_set2 hx8 (Nat.le_refl _) _ _, Nat.le_refl _⟩ |
                  exact ⟨_, rfl, Blk.set2 zb _ _, below_set2 hx8 hx6.size _ _, hx6.size⟩ |
                  exact ⟨_, rfl, Blk.set2 zc _ _, below_set2 hx8 hx7.size _ _, hx7.size⟩ |
                  exact ⟨_, rfl, Blk.at_ rfl, hx8.alloc hx8.size _, hx8.size⟩)
          case rest =>
            obtain ⟨u, rfl, gu, hcx, hwu⟩ := hcut
            rename World => w6
            have g2 := g2b.below hcx g2b.lt
            have hw6 := bl2 hw5 hcx
            have hz5 := g2b.lt
            clear g0 g1 g0b g1b c0 c1 c2 c3 c4 c5 f0 f1 hz
            have g2c := g2; have guc := gu
            have hz := g2.lt; have lu := gu.lt; have u0 := gu.cell 0; have u1 := gu.cell 1; have c4 := g2.cell 0; have c5 := g2.cell 1; have f0 := g2.free 0; have f1 := g2.free 1; simp at u0 u1 c4 c5
            have nzu : u ≠ w.heap.size + 1 + 1 := by omega
            have nzu2 : w.heap.size + 1 + 1 ≠ u := by omega
            go_upto_region 12 with
              (first | (go_at_call 67; have _ := hx7; refine (HG2.out _ _ (by first | omega | (simp; omega) | (simp; done))).mono ?_; rintro _ w8 ⟨rfl, hb8⟩; have hx8 : Below w6.heap.size w6 w8 := bl2 hx7 (Below.trans (by (repeat (first | exact Below.refl _ _ | assumption | (refine Below.alloc ?_ (by first | omega | (simp; omega) | (simp; done)) _) | (refine Below.setCell ?_ (by first | omega | (simp; omega) | (simp; done)) _) | (refine Below.drew ?_) | (refine belowN ?_ _) | (refine Below.trans ?_ (Below.mono ‹Below _ _ _› (by first | omega | (simp; omega) | (simp; done))))))) (hb8.mono (by simp))); have g2 := g2c.below hx8 g2c.lt; have gu := guc.below hx8 guc.lt; have hz := g2.lt; have lu := gu.lt; have u0 := gu.cell 0; have u1 := gu.cell 1; have c4 := g2.cell 0; have c5 := g2.cell 1; have f0 := g2.free 0; have f1 := g2.free 1; simp at u0 u1 c4 c5) |
                (go_at_call 69; (with_reducible refine (HM.out _).mono ?_); rintro _ w7 ⟨rfl, hb7⟩; have hx7 : Below w6.heap.size w6 w7 := Below.trans (by (repeat (first | exact Below.refl _ _ | assumption | (refine Below.alloc ?_ (by first | omega | (simp; omega) | (simp; done)) _) | (refine Below.setCell ?_ (by first | omega | (simp; omega) | (simp; done)) _) | (refine Below.drew ?_) | (refine belowN ?_ _) | (refine Below.trans ?_ (Below.mono ‹Below _ _ _› (by first | omega | (simp; omega) | (simp; done))))))) (hb7.mono (by simp)); have g2 := g2c.below hx7 g2c.lt; have gu := guc.below hx7 guc.lt; have hz := g2.lt; have lu := gu.lt; have u0 := gu.cell 0; have u1 := gu.cell 1; have c4 := g2.cell 0; have c5 := g2.cell 1; have f0 := g2.free 0; have f1 := g2.free 1; simp at u0 u1 c4 c5) |
                (go_at_call 70; (with_reducible refine (HS1.out _).mono ?_); rintro _ _ ⟨rfl, rfl⟩) |
                (go_at_call 70; (with_reducible refine (HS2.out _ (by first | omega | (simp; omega) | (simp; done))).mono ?_); rintro _ _ ⟨rfl, rfl⟩))
            have hw8 := bl2 hw6 hx8
            have g2d := g2; have gud := gu
            go_region_held (fun W' => W'.cell? ⟨u, 0, none⟩ = some (.int .u64 hi) ∧ W'.cell? ⟨u, 1, none⟩ = some (.int .u64 lo)) (first | exact ⟨u0, u1⟩ | go_keep)
              ((go_at_call 71; (with_reducible refine (HO.out _ k2 hk1).mono ?_); rintro _ w9 ⟨rfl, hb9⟩; have hx9 : Below w8.heap.size w8 w9 := Below.trans (by (repeat (first | exact Below.refl _ _ | assumption | (refine Below.alloc ?_ (by first | omega | (simp; omega) | (simp; done)) _) | (refine Below.setCell ?_ (by first | omega | (simp; omega) | (simp; done)) _) | (refine Below.drew ?_) | (refine belowN ?_ _) | (refine Below.trans ?_ (Below.mono ‹Below _ _ _› (by first | omega | (simp; omega) | (simp; done))))))) (hb9.mono (by simp)); have g2 := g2d.below hx9 g2d.lt; have gu := gud.below hx9 gud.lt; have hz := g2.lt; have lu := gu.lt; have u0 := gu.cell 0; have u1 := gu.cell 1; have c4 := g2.cell 0; have c5 := g2.cell 1; have f0 := g2.free 0; have f1 := g2.free 1; simp at u0 u1 c4 c5))
            all_goals (
              have hw9 := bl2 hw8 hx9
              go_wp2
              refine gen_w (fun W => Blk W (w.heap.size + 1 + 1) #[.int .i64 NH, .int .i64 (P * Q * K)] 27 ∧ Below w.heap.size w W) ⟨(g2.set2 _ _), by (repeat (first | exact Below.refl _ _ | assumption | (refine Below.alloc ?_ (by first | omega | (simp; omega) | (simp; done)) _) | (refine Below.setCell ?_ (by first | omega | (simp; omega) | (simp; done)) _) | (refine Below.drew ?_) | (refine belowN ?_ _) | (refine Below.trans ?_ (Below.mono ‹Below _ _ _› (by first | omega | (simp; omega) | (simp; done))))))⟩ ?_
              rintro W ⟨gW, hW⟩
              have q0 := gW.cell 0; have q1 := gW.cell 1
              simp at q0 q1
              exact bodyPost_ret (v := .tuple #[.agg #[.int .i64 NH, .int .i64 (P * Q * K)], .int .i64 0]) (by simp [results, Try.results36, go_sem, q0, q1]) rfl ⟨by rw [HT.out], hW⟩
              )
          )
        )
    · have HT : Hid (res = (0, 0, 10)) := (by have := HE2.out; rw [if_neg (fun h => s2 h.2)] at this; exact this : res = _)
      rw [smallB_true s1] at HS1
      rw [smallB_false s2] at HS2
      clear HE2 HFIT s2
      go_enter Try.func36, Try.ntmps36
      go_upto_region 4 with (go_at_call 63; refine (HI.out _ _ (by first | omega | (simp; omega) | (simp; done))).mono ?_; rintro _ w1 ⟨rfl, hb1⟩; have g0 : Blk w1 w.heap.size #[.int .i64 n, .int .i64 d] 27 := (((Blk.at_ rfl).alloc _).alloc _).below hb1 (by first | omega | (simp; omega) | (simp; done)); have g1 : Blk w1 (w.heap.size + 1) #[.int .i64 p, .int .i64 q] 27 := ((Blk.at_ (by simp)).alloc _).below hb1 (by first | omega | (simp; omega) | (simp; done)); have g2 : Blk w1 (w.heap.size + 1 + 1) #[.int .i64 0, .int .i64 0] 27 := (Blk.at_ (by simp)).below hb1 (by first | omega | (simp; omega) | (simp; done)); have hz := g2.lt; have c0 := g0.cell 0; have c1 := g0.cell 1; have c2 := g1.cell 0; have c3 := g1.cell 1; have hw1 : Below w.heap.size w w1 := (by (repeat (first | exact Below.refl _ _ | assumption | (refine Below.alloc ?_ (by first | omega | (simp; omega) | (simp; done)) _) | (refine Below.setCell ?_ (by first | omega | (simp; omega) | (simp; done)) _) | (refine Below.drew ?_) | (refine belowN ?_ _) | (refine Below.trans ?_ (Below.mono ‹Below _ _ _› (by first | omega | (simp; omega) | (simp; done))))))); simp at c0 c1 c2 c3)
      obtain ⟨B3, hB3⟩ : ∃ B, B = w1.heap.size := ⟨_, rfl⟩
      have hB4 : w.heap.size + 1 + 1 < B3 := by omega
      refine gen_w (fun W => Blk W w.heap.size #[.int .i64 n, .int .i64 d] 27 ∧ Blk W (w.heap.size + 1) #[.int .i64 p, .int .i64 q] 27 ∧ Blk W (w.heap.size + 1 + 1) #[.int .i64 0, .int .i64 0] 27 ∧ Blk W B3 #[.int .i64 (q - p), .int .i64 q] 27 ∧ Below w.heap.size w W) ⟨g0.alloc _, g1.alloc _, g2.alloc _, Blk.at_ hB3, by (repeat (first | exact Below.refl _ _ | assumption | (refine Below.alloc ?_ (by first | omega | (simp; omega) | (simp; done)) _) | (refine Below.setCell ?_ (by first | omega | (simp; omega) | (simp; done)) _) | (refine Below.drew ?_) | (refine belowN ?_ _) | (refine Below.trans ?_ (Below.mono ‹Below _ _ _› (by first | omega | (simp; omega) | (simp; done))))))⟩ ?_
      rw [← hB3]
      clear hB3 g0 g1 g2 hz c0 c1 c2 c3 hw1 hb1
      clear w1
      rintro w1 ⟨g0, g1, g2, g3, hw1⟩
      have g0b := g0; have g1b := g1; have g2b := g2; have g3b := g3
      have hz := g3.lt; have c0 := g0.cell 0; have c1 := g0.cell 1; have c2 := g1.cell 0; have c3 := g1.cell 1; have c4 := g2.cell 0; have c5 := g2.cell 1; have c6 := g3.cell 0; have c7 := g3.cell 1; have f0 := g2.free 0; have f1 := g2.free 1; simp at c0 c1 c2 c3 c4 c5 c6 c7
      go_region_held (fun W' => W'.cell? ⟨w.heap.size, 0, none⟩ = some (.int .i64 n) ∧ W'.cell? ⟨w.heap.size, 1, none⟩ = some (.int .i64 d) ∧ W'.cell? ⟨B3, 0, none⟩ = some (.int .i64 (q - p)) ∧ W'.cell? ⟨B3, 1, none⟩ = some (.int .i64 q)) (exact ⟨c0, c1, c6, c7⟩)
        (first | (go_at_call 65; have _ := hx3; (with_reducible refine (HWC.out _).mono ?_); rintro _ w4 ⟨rfl, hb4⟩; have hx4 : Below w1.heap.size w1 w4 := bl2 hx3 (Below.trans (by (repeat (first | exact Below.refl _ _ | assumption | (refine Below.alloc ?_ (by first | omega | (simp; omega) | (simp; done)) _) | (refine Below.setCell ?_ (by first | omega | (simp; omega) | (simp; done)) _) | (refine Below.drew ?_) | (refine belowN ?_ _) | (refine Below.trans ?_ (Below.mono ‹Below _ _ _› (by first | omega | (simp; omega) | (simp; done))))))) (hb4.mono (by simp))); have g0 := g0b.below hx4 g0b.lt; have g1 := g1b.below hx4 g1b.lt; have g2 := g2b.below hx4 g2b.lt; have g3 := g3b.below hx4 g3b.lt; have hz := g3.lt; have c0 := g0.cell 0; have c1 := g0.cell 1; have c2 := g1.cell 0; have c3 := g1.cell 1; have c4 := g2.cell 0; have c5 := g2.cell 1; have c6 := g3.cell 0; have c7 := g3.cell 1; have f0 := g2.free 0; have f1 := g2.free 1; simp at c0 c1 c2 c3 c4 c5 c6 c7) |
          (go_at_call 64; have _ := hx2; (with_reducible refine (HT2.out _).mono ?_); rintro _ w3 ⟨rfl, hb3⟩; have hx3 : Below w1.heap.size w1 w3 := bl2 hx2 (Below.trans (by (repeat (first | exact Below.refl _ _ | assumption | (refine Below.alloc ?_ (by first | omega | (simp; omega) | (simp; done)) _) | (refine Below.setCell ?_ (by first | omega | (simp; omega) | (simp; done)) _) | (refine Below.drew ?_) | (refine belowN ?_ _) | (refine Below.trans ?_ (Below.mono ‹Below _ _ _› (by first | omega | (simp; omega) | (simp; done))))))) (hb3.mono (by simp))); have g0 := g0b.below hx3 g0b.lt; have g1 := g1b.below hx3 g1b.lt; have g2 := g2b.below hx3 g2b.lt; have g3 := g3b.below hx3 g3b.lt; have hz := g3.lt; have c0 := g0.cell 0; have c1 := g0.cell 1; have c2 := g1.cell 0; have c3 := g1.cell 1; have c4 := g2.cell 0; have c5 := g2.cell 1; have c6 := g3.cell 0; have c7 := g3.cell 1; have f0 := g2.free 0; have f1 := g2.free 1; simp at c0 c1 c2 c3 c4 c5 c6 c7) |
          (go_at_call 64; (with_reducible refine (HT1.out _).mono ?_); rintro _ w2 ⟨rfl, hb2⟩; have hx2 : Below w1.heap.size w1 w2 := Below.trans (by (repeat (first | exact Below.refl _ _ | assumption | (refine Below.alloc ?_ (by first | omega | (simp; omega) | (simp; done)) _) | (refine Below.setCell ?_ (by first | omega | (simp; omega) | (simp; done)) _) | (refine Below.drew ?_) | (refine belowN ?_ _) | (refine Below.trans ?_ (Below.mono ‹Below _ _ _› (by first | omega | (simp; omega) | (simp; done))))))) (hb2.mono (by simp)); have g0 := g0b.below hx2 g0b.lt; have g1 := g1b.below hx2 g1b.lt; have g2 := g2b.below hx2 g2b.lt; have g3 := g3b.below hx2 g3b.lt; have hz := g3.lt; have c0 := g0.cell 0; have c1 := g0.cell 1; have c2 := g1.cell 0; have c3 := g1.cell 1; have c4 := g2.cell 0; have c5 := g2.cell 1; have c6 := g3.cell 0; have c7 := g3.cell 1; have f0 := g2.free 0; have f1 := g2.free 1; simp at c0 c1 c2 c3 c4 c5 c6 c7))
      have hw4 := bl2 hw1 hx4
      all_goals (
        go_upto_region 7 with (go_at_call 67; refine (HG.out _ _ (by first | omega | (simp; omega) | (simp; done))).mono ?_; rintro _ w5 ⟨rfl, hb5⟩; have hw5 : Below w.heap.size w w5 := bl2 hw4 (Below.trans (by (repeat (first | exact Below.refl _ _ | assumption | (refine Below.alloc ?_ (by first | omega | (simp; omega) | (simp; done)) _) | (refine Below.setCell ?_ (by first | omega | (simp; omega) | (simp; done)) _) | (refine Below.drew ?_) | (refine belowN ?_ _) | (refine Below.trans ?_ (Below.mono ‹Below _ _ _› (by first | omega | (simp; omega) | (simp; done))))))) (hb5.mono (by simp))); have hx5 : Below w4.heap.size w4 w5 := Below.trans (by (repeat (first | exact Below.refl _ _ | assumption | (refine Below.alloc ?_ (by first | omega | (simp; omega) | (simp; done)) _) | (refine Below.setCell ?_ (by first | omega | (simp; omega) | (simp; done)) _) | (refine Below.drew ?_) | (refine belowN ?_ _) | (refine Below.trans ?_ (Below.mono ‹Below _ _ _› (by first | omega | (simp; omega) | (simp; done))))))) (hb5.mono (by simp)); have g0 := g0.below hx5 g0.lt; have g1 := g1.below hx5 g1.lt; have g2 := g2.below hx5 g2.lt; have hz := g2.lt; have c0 := g0.cell 0; have c1 := g0.cell 1; have c2 := g1.cell 0; have c3 := g1.cell 1; have c4 := g2.cell 0; have c5 := g2.cell 1; have f0 := g2.free 0; have f1 := g2.free 1; simp at c0 c1 c2 c3 c4 c5)
        go_region
        all_goals (
          go_upto_region 8 with fail
          rw [eqP, eqQ]
          refine gen_w (fun W => Blk W w.heap.size #[.int .i64 n, .int .i64 d] 27 ∧ Blk W (w.heap.size + 1) #[.int .i64 p, .int .i64 q] 27 ∧ Blk W (w.heap.size + 1 + 1) #[.int .i64 0, .int .i64 0] 27 ∧ Below w.heap.size w W) ⟨g0, g1, g2, by (repeat (first | exact Below.refl _ _ | assumption | (refine Below.alloc ?_ (by first | omega | (simp; omega) | (simp; done)) _) | (refine Below.setCell ?_ (by first | omega | (simp; omega) | (simp; done)) _) | (refine Below.drew ?_) | (refine belowN ?_ _) | (refine Below.trans ?_ (Below.mono ‹Below _ _ _› (by first | omega | (simp; omega) | (simp; done))))))⟩ ?_
          clear g0 g1 g2 g3 hz c0 c1 c2 c3 c4 c5 f0 f1 hw4 hw5 hx5 hb5
          clear w5
          rintro w5 ⟨g0, g1, g2, hw5⟩
          have g0b := g0; have g1b := g1; have g2b := g2
          have hz := g2.lt; have c0 := g0.cell 0; have c1 := g0.cell 1; have c2 := g1.cell 0; have c3 := g1.cell 1; have c4 := g2.cell 0; have c5 := g2.cell 1; have f0 := g2.free 0; have f1 := g2.free 1; simp at c0 c1 c2 c3 c4 c5
          go_cut [10] (fun s10 wx => ∃ u : Nat, s10 = .pointer (some ⟨u, 0, none⟩) ∧ Blk wx u #[.int .u64 hi, .int .u64 lo] 108 ∧ Below w5.heap.size w5 wx ∧ w5.heap.size ≤ u)
          case first =>
            as_aux_lemma =>
              have nz1 : w5.heap.size ≠ w.heap.size ∧ w5.heap.size ≠ w.heap.size + 1 := ⟨by omega, by omega⟩
              go_region_held (fun W' => W'.cell? ⟨w.heap.size, 0, none⟩ = some (.int .i64 n) ∧ W'.cell? ⟨w.heap.size + 1, 0, none⟩ = some (.int .i64 p)) (first | exact ⟨c0, c2⟩ | go_keep)
                (first | (go_at_call 68; have _ := hx7; (with_reducible refine (HPL.out _).mono ?_); rintro _ w8 ⟨rfl, hb8⟩; have hx8 : Below w5.heap.size w5 w8 := bl2 hx7 (Below.trans (by (repeat (first | exact Below.refl _ _ | assumption | (refine Below.alloc ?_ (by first | omega | (simp; omega) | (simp; done)) _) | (refine Below.setCell ?_ (by first | omega | (simp; omega) | (simp; done)) _) | (refine Below.drew ?_) | (refine belowN ?_ _) | (refine Below.trans ?_ (Below.mono ‹Below _ _ _› (by first | omega | (simp; omega) | (simp; done))))))) (hb8.mono (by simp))); have g0 := g0b.below hx8 g0b.lt; have g1 := g1b.below hx8 g1b.lt; have g2 := g2b.below hx8 g2b.lt; have hz := g2.lt; have c0 := g0.cell 0; have c1 := g0.cell 1; have c2 := g1.cell 0; have c3 := g1.cell 1; have c4 := g2.cell 0; have c5 := g2.cell 1; have f0 := g2.free 0; have f1 := g2.free 1; simp at c0 c1 c2 c3 c4 c5; have nz4 : w8.heap.size ≠ w.heap.size ∧ w8.heap.size ≠ w.heap.size + 1 := ⟨by omega, by omega⟩; (try (refine lay (Blk.below za hb8 ?_) ?_; (focus (first | omega | (simp; omega) | (simp; done))); intro za; have zal := za.lt; have za0 := za.cell 0; have za1 := za.cell 1; have za2 := za.free 0; have za3 := za.free 1; simp at za0 za1)); (try (refine lay (Blk.below zb hb8 ?_) ?_; (focus (first | omega | (simp; omega) | (simp; done))); intro zb; have zbl := zb.lt; have zb0 := zb.cell 0; have zb1 := zb.cell 1; have zb2 := zb.free 0; have zb3 := zb.free 1; simp at zb0 zb1)); (try (refine lay (P := Blk w8 w7.heap.size #[.int .u64 0, .int .u64 0] 108) ?_ ?_; (focus (refine Blk.below ?_ hb8 ?_; (focus (first | exact Blk.new _ _ _ | exact Blk.drew (Blk.new _ _ _))); (focus (first | omega | (simp; omega) | (simp; done))))); intro zc; have zcl := zc.lt; have zc0 := zc.cell 0; have zc1 := zc.cell 1; have zc2 := zc.free 0; have zc3 := zc.free 1; simp at zc0 zc1))) |
                  (go_at_call 64; have _ := hx6; (with_reducible refine (HT4.out _).mono ?_); rintro _ w7 ⟨rfl, hb7⟩; have hx7 : Below w5.heap.size w5 w7 := bl2 hx6 (Below.trans (by (repeat (first | exact Below.refl _ _ | assumption | (refine Below.alloc ?_ (by first | omega | (simp; omega) | (simp; done)) _) | (refine Below.setCell ?_ (by first | omega | (simp; omega) | (simp; done)) _) | (refine Below.drew ?_) | (refine belowN ?_ _) | (refine Below.trans ?_ (Below.mono ‹Below _ _ _› (by first | omega | (simp; omega) | (simp; done))))))) (hb7.mono (by simp))); have g0 := g0b.below hx7 g0b.lt; have g1 := g1b.below hx7 g1b.lt; have g2 := g2b.below hx7 g2b.lt; have hz := g2.lt; have c0 := g0.cell 0; have c1 := g0.cell 1; have c2 := g1.cell 0; have c3 := g1.cell 1; have c4 := g2.cell 0; have c5 := g2.cell 1; have f0 := g2.free 0; have f1 := g2.free 1; simp at c0 c1 c2 c3 c4 c5; have nz3 : w7.heap.size ≠ w.heap.size ∧ w7.heap.size ≠ w.heap.size + 1 := ⟨by omega, by omega⟩; (try (refine lay (Blk.below za hb7 ?_) ?_; (focus (first | omega | (simp; omega) | (simp; done))); intro za; have zal := za.lt; have za0 := za.cell 0; have za1 := za.cell 1; have za2 := za.free 0; have za3 := za.free 1; simp at za0 za1)); (try (refine lay (P := Blk w7 w6.heap.size #[.int .u64 0, .int .u64 0] 108) ?_ ?_; (focus (refine Blk.below ?_ hb7 ?_; (focus (first | exact Blk.new _ _ _ | exact Blk.drew (Blk.new _ _ _))); (focus (first | omega | (simp; omega) | (simp; done))))); intro zb; have zbl := zb.lt; have zb0 := zb.cell 0; have zb1 := zb.cell 1; have zb2 := zb.free 0; have zb3 := zb.free 1; simp at zb0 zb1))) |
                  (go_at_call 64; (with_reducible refine (HT3.out _).mono ?_); rintro _ w6 ⟨rfl, hb6⟩; have hx6 : Below w5.heap.size w5 w6 := Below.trans (by (repeat (first | exact Below.refl _ _ | assumption | (refine Below.alloc ?_ (by first | omega | (simp; omega) | (simp; done)) _) | (refine Below.setCell ?_ (by first | omega | (simp; omega) | (simp; done)) _) | (refine Below.drew ?_) | (refine belowN ?_ _) | (refine Below.trans ?_ (Below.mono ‹Below _ _ _› (by first | omega | (simp; omega) | (simp; done))))))) (hb6.mono (by simp)); have g0 := g0b.below hx6 g0b.lt; have g1 := g1b.below hx6 g1b.lt; have g2 := g2b.below hx6 g2b.lt; have hz := g2.lt; have c0 := g0.cell 0; have c1 := g0.cell 1; have c2 := g1.cell 0; have c3 := g1.cell 1; have c4 := g2.cell 0; have c5 := g2.cell 1; have f0 := g2.free 0; have f1 := g2.free 1; simp at c0 c1 c2 c3 c4 c5; have nz2 : w6.heap.size ≠ w.heap.size ∧ w6.heap.size ≠ w.heap.size + 1 := ⟨by omega, by omega⟩; (try (refine lay (P := Blk w6 w5.heap.size #[.int .u64 0, .int .u64 0] 108) ?_ ?_; (focus (refine Blk.below ?_ hb6 ?_; (focus (first | exact Blk.new _ _ _ | exact Blk.drew (Blk.new _ _ _))); (focus (first | omega | (simp; omega) | (simp; done))))); intro za; have zal := za.lt; have za0 := za.cell 0; have za1 := za.cell 1; have za2 := za.free 0; have za3 := za.free 1; simp at za0 za1))))
              all_goals (
                go_wp2_with fail
                go_meet
                first |
                  exact ⟨_, rfl, Blk.set2 za _ _, below_set2 hx8 (Nat.le_refl _) _ _, Nat.le_refl _⟩ |
                  exact ⟨_, rfl, Blk.set2 zb _ _, below_set2 hx8 hx6.size _ _, hx6.size⟩ |
                  exact ⟨_, rfl, Blk.set2 zc _ _, below_set2 hx8 hx7.size _ _, hx7.size⟩ |
                  exact ⟨_, rfl, Blk.at_ rfl, hx8.alloc hx8.size _, hx8.size⟩)
          case rest =>
            obtain ⟨u, rfl, gu, hcx, hwu⟩ := hcut
            rename World => w6
            have g2 := g2b.below hcx g2b.lt
            have hw6 := bl2 hw5 hcx
            have hz5 := g2b.lt
            clear g0 g1 g0b g1b c0 c1 c2 c3 c4 c5 f0 f1 hz
            have g2c := g2; have guc := gu
            have hz := g2.lt; have lu := gu.lt; have u0 := gu.cell 0; have u1 := gu.cell 1; have c4 := g2.cell 0; have c5 := g2.cell 1; have f0 := g2.free 0; have f1 := g2.free 1; simp at u0 u1 c4 c5
            have nzu : u ≠ w.heap.size + 1 + 1 := by omega
            have nzu2 : w.heap.size + 1 + 1 ≠ u := by omega
            go_wp2_with
              (first | (go_at_call 67; have _ := hx7; refine (HG2.out _ _ (by first | omega | (simp; omega) | (simp; done))).mono ?_; rintro _ w8 ⟨rfl, hb8⟩; have hx8 : Below w6.heap.size w6 w8 := bl2 hx7 (Below.trans (by (repeat (first | exact Below.refl _ _ | assumption | (refine Below.alloc ?_ (by first | omega | (simp; omega) | (simp; done)) _) | (refine Below.setCell ?_ (by first | omega | (simp; omega) | (simp; done)) _) | (refine Below.drew ?_) | (refine belowN ?_ _) | (refine Below.trans ?_ (Below.mono ‹Below _ _ _› (by first | omega | (simp; omega) | (simp; done))))))) (hb8.mono (by simp))); have g2 := g2c.below hx8 g2c.lt; have gu := guc.below hx8 guc.lt; have hz := g2.lt; have lu := gu.lt; have u0 := gu.cell 0; have u1 := gu.cell 1; have c4 := g2.cell 0; have c5 := g2.cell 1; have f0 := g2.free 0; have f1 := g2.free 1; simp at u0 u1 c4 c5) |
                (go_at_call 69; (with_reducible refine (HM.out _).mono ?_); rintro _ w7 ⟨rfl, hb7⟩; have hx7 : Below w6.heap.size w6 w7 := Below.trans (by (repeat (first | exact Below.refl _ _ | assumption | (refine Below.alloc ?_ (by first | omega | (simp; omega) | (simp; done)) _) | (refine Below.setCell ?_ (by first | omega | (simp; omega) | (simp; done)) _) | (refine Below.drew ?_) | (refine belowN ?_ _) | (refine Below.trans ?_ (Below.mono ‹Below _ _ _› (by first | omega | (simp; omega) | (simp; done))))))) (hb7.mono (by simp)); have g2 := g2c.below hx7 g2c.lt; have gu := guc.below hx7 guc.lt; have hz := g2.lt; have lu := gu.lt; have u0 := gu.cell 0; have u1 := gu.cell 1; have c4 := g2.cell 0; have c5 := g2.cell 1; have f0 := g2.free 0; have f1 := g2.free 1; simp at u0 u1 c4 c5) |
                (go_at_call 70; (with_reducible refine (HS1.out _).mono ?_); rintro _ _ ⟨rfl, rfl⟩) |
                (go_at_call 70; (with_reducible refine (HS2.out _ (by first | omega | (simp; omega) | (simp; done))).mono ?_); rintro _ _ ⟨rfl, rfl⟩))
            have hw8 := bl2 hw6 hx8
            refine gen_w (fun W => Blk W (w.heap.size + 1 + 1) #[.int .i64 0, .int .i64 0] 27 ∧ Below w.heap.size w W) ⟨(g2.set2 _ _), by (repeat (first | exact Below.refl _ _ | assumption | (refine Below.alloc ?_ (by first | omega | (simp; omega) | (simp; done)) _) | (refine Below.setCell ?_ (by first | omega | (simp; omega) | (simp; done)) _) | (refine Below.drew ?_) | (refine belowN ?_ _) | (refine Below.trans ?_ (Below.mono ‹Below _ _ _› (by first | omega | (simp; omega) | (simp; done))))))⟩ ?_
            rintro W ⟨gW, hW⟩
            have q0 := gW.cell 0; have q1 := gW.cell 1
            simp at q0 q1
            exact bodyPost_ret (v := .tuple #[.agg #[.int .i64 0, .int .i64 0], .int .i64 10]) (by simp [results, Try.results36, go_sem, q0, q1]) rfl ⟨by rw [HT.out], hW⟩
          )
        )
  · have HT : Hid (res = (0, 0, 10)) := (by have := HE2.out; rw [if_neg (fun h => s1 h.1)] at this; exact this : res = _)
    rw [smallB_false s1] at HS1
    clear HE2 HFIT s1 HS2
    go_enter Try.func36, Try.ntmps36
    go_upto_region 4 with (go_at_call 63; refine (HI.out _ _ (by first | omega | (simp; omega) | (simp; done))).mono ?_; rintro _ w1 ⟨rfl, hb1⟩; have g0 : Blk w1 w.heap.size #[.int .i64 n, .int .i64 d] 27 := (((Blk.at_ rfl).alloc _).alloc _).below hb1 (by first | omega | (simp; omega) | (simp; done)); have g1 : Blk w1 (w.heap.size + 1) #[.int .i64 p, .int .i64 q] 27 := ((Blk.at_ (by simp)).alloc _).below hb1 (by first | omega | (simp; omega) | (simp; done)); have g2 : Blk w1 (w.heap.size + 1 + 1) #[.int .i64 0, .int .i64 0] 27 := (Blk.at_ (by simp)).below hb1 (by first | omega | (simp; omega) | (simp; done)); have hz := g2.lt; have c0 := g0.cell 0; have c1 := g0.cell 1; have c2 := g1.cell 0; have c3 := g1.cell 1; have hw1 : Below w.heap.size w w1 := (by (repeat (first | exact Below.refl _ _ | assumption | (refine Below.alloc ?_ (by first | omega | (simp; omega) | (simp; done)) _) | (refine Below.setCell ?_ (by first | omega | (simp; omega) | (simp; done)) _) | (refine Below.drew ?_) | (refine belowN ?_ _) | (refine Below.trans ?_ (Below.mono ‹Below _ _ _› (by first | omega | (simp; omega) | (simp; done))))))); simp at c0 c1 c2 c3)
    obtain ⟨B3, hB3⟩ : ∃ B, B = w1.heap.size := ⟨_, rfl⟩
    have hB4 : w.heap.size + 1 + 1 < B3 := by omega
    refine gen_w (fun W => Blk W w.heap.size #[.int .i64 n, .int .i64 d] 27 ∧ Blk W (w.heap.size + 1) #[.int .i64 p, .int .i64 q] 27 ∧ Blk W (w.heap.size + 1 + 1) #[.int .i64 0, .int .i64 0] 27 ∧ Blk W B3 #[.int .i64 (q - p), .int .i64 q] 27 ∧ Below w.heap.size w W) ⟨g0.alloc _, g1.alloc _, g2.alloc _, Blk.at_ hB3, by (repeat (first | exact Below.refl _ _ | assumption | (refine Below.alloc ?_ (by first | omega | (simp; omega) | (simp; done)) _) | (refine Below.setCell ?_ (by first | omega | (simp; omega) | (simp; done)) _) | (refine Below.drew ?_) | (refine belowN ?_ _) | (refine Below.trans ?_ (Below.mono ‹Below _ _ _› (by first | omega | (simp; omega) | (simp; done))))))⟩ ?_
    rw [← hB3]
    clear hB3 g0 g1 g2 hz c0 c1 c2 c3 hw1 hb1
    clear w1
    rintro w1 ⟨g0, g1, g2, g3, hw1⟩
    have g0b := g0; have g1b := g1; have g2b := g2; have g3b := g3
    have hz := g3.lt; have c0 := g0.cell 0; have c1 := g0.cell 1; have c2 := g1.cell 0; have c3 := g1.cell 1; have c4 := g2.cell 0; have c5 := g2.cell 1; have c6 := g3.cell 0; have c7 := g3.cell 1; have f0 := g2.free 0; have f1 := g2.free 1; simp at c0 c1 c2 c3 c4 c5 c6 c7
    go_region_held (fun W' => W'.cell? ⟨w.heap.size, 0, none⟩ = some (.int .i64 n) ∧ W'.cell? ⟨w.heap.size, 1, none⟩ = some (.int .i64 d) ∧ W'.cell? ⟨B3, 0, none⟩ = some (.int .i64 (q - p)) ∧ W'.cell? ⟨B3, 1, none⟩ = some (.int .i64 q)) (exact ⟨c0, c1, c6, c7⟩)
      (first | (go_at_call 65; have _ := hx3; (with_reducible refine (HWC.out _).mono ?_); rintro _ w4 ⟨rfl, hb4⟩; have hx4 : Below w1.heap.size w1 w4 := bl2 hx3 (Below.trans (by (repeat (first | exact Below.refl _ _ | assumption | (refine Below.alloc ?_ (by first | omega | (simp; omega) | (simp; done)) _) | (refine Below.setCell ?_ (by first | omega | (simp; omega) | (simp; done)) _) | (refine Below.drew ?_) | (refine belowN ?_ _) | (refine Below.trans ?_ (Below.mono ‹Below _ _ _› (by first | omega | (simp; omega) | (simp; done))))))) (hb4.mono (by simp))); have g0 := g0b.below hx4 g0b.lt; have g1 := g1b.below hx4 g1b.lt; have g2 := g2b.below hx4 g2b.lt; have g3 := g3b.below hx4 g3b.lt; have hz := g3.lt; have c0 := g0.cell 0; have c1 := g0.cell 1; have c2 := g1.cell 0; have c3 := g1.cell 1; have c4 := g2.cell 0; have c5 := g2.cell 1; have c6 := g3.cell 0; have c7 := g3.cell 1; have f0 := g2.free 0; have f1 := g2.free 1; simp at c0 c1 c2 c3 c4 c5 c6 c7) |
        (go_at_call 64; have _ := hx2; (with_reducible refine (HT2.out _).mono ?_); rintro _ w3 ⟨rfl, hb3⟩; have hx3 : Below w1.heap.size w1 w3 := bl2 hx2 (Below.trans (by (repeat (first | exact Below.refl _ _ | assumption | (refine Below.alloc ?_ (by first | omega | (simp; omega) | (simp; done)) _) | (refine Below.setCell ?_ (by first | omega | (simp; omega) | (simp; done)) _) | (refine Below.drew ?_) | (refine belowN ?_ _) | (refine Below.trans ?_ (Below.mono ‹Below _ _ _› (by first | omega | (simp; omega) | (simp; done))))))) (hb3.mono (by simp))); have g0 := g0b.below hx3 g0b.lt; have g1 := g1b.below hx3 g1b.lt; have g2 := g2b.below hx3 g2b.lt; have g3 := g3b.below hx3 g3b.lt; have hz := g3.lt; have c0 := g0.cell 0; have c1 := g0.cell 1; have c2 := g1.cell 0; have c3 := g1.cell 1; have c4 := g2.cell 0; have c5 := g2.cell 1; have c6 := g3.cell 0; have c7 := g3.cell 1; have f0 := g2.free 0; have f1 := g2.free 1; simp at c0 c1 c2 c3 c4 c5 c6 c7) |
        (go_at_call 64; (with_reducible refine (HT1.out _).mono ?_); rintro _ w2 ⟨rfl, hb2⟩; have hx2 : Below w1.heap.size w1 w2 := Below.trans (by (repeat (first | exact Below.refl _ _ | assumption | (refine Below.alloc ?_ (by first | omega | (simp; omega) | (simp; done)) _) | (refine Below.setCell ?_ (by first | omega | (simp; omega) | (simp; done)) _) | (refine Below.drew ?_) | (refine belowN ?_ _) | (refine Below.trans ?_ (Below.mono ‹Below _ _ _› (by first | omega | (simp; omega) | (simp; done))))))) (hb2.mono (by simp)); have g0 := g0b.below hx2 g0b.lt; have g1 := g1b.below hx2 g1b.lt; have g2 := g2b.below hx2 g2b.lt; have g3 := g3b.below hx2 g3b.lt; have hz := g3.lt; have c0 := g0.cell 0; have c1 := g0.cell 1; have c2 := g1.cell 0; have c3 := g1.cell 1; have c4 := g2.cell 0; have c5 := g2.cell 1; have c6 := g3.cell 0; have c7 := g3.cell 1; have f0 := g2.free 0; have f1 := g2.free 1; simp at c0 c1 c2 c3 c4 c5 c6 c7))
    have hw4 := bl2 hw1 hx4
    all_goals (
      go_upto_region 7 with (go_at_call 67; refine (HG.out _ _ (by first | omega | (simp; omega) | (simp; done))).mono ?_; rintro _ w5 ⟨rfl, hb5⟩; have hw5 : Below w.heap.size w w5 := bl2 hw4 (Below.trans (by (repeat (first | exact Below.refl _ _ | assumption | (refine Below.alloc ?_ (by first | omega | (simp; omega) | (simp; done)) _) | (refine Below.setCell ?_ (by first | omega | (simp; omega) | (simp; done)) _) | (refine Below.drew ?_) | (refine belowN ?_ _) | (refine Below.trans ?_ (Below.mono ‹Below _ _ _› (by first | omega | (simp; omega) | (simp; done))))))) (hb5.mono (by simp))); have hx5 : Below w4.heap.size w4 w5 := Below.trans (by (repeat (first | exact Below.refl _ _ | assumption | (refine Below.alloc ?_ (by first | omega | (simp; omega) | (simp; done)) _) | (refine Below.setCell ?_ (by first | omega | (simp; omega) | (simp; done)) _) | (refine Below.drew ?_) | (refine belowN ?_ _) | (refine Below.trans ?_ (Below.mono ‹Below _ _ _› (by first | omega | (simp; omega) | (simp; done))))))) (hb5.mono (by simp)); have g0 := g0.below hx5 g0.lt; have g1 := g1.below hx5 g1.lt; have g2 := g2.below hx5 g2.lt; have hz := g2.lt; have c0 := g0.cell 0; have c1 := g0.cell 1; have c2 := g1.cell 0; have c3 := g1.cell 1; have c4 := g2.cell 0; have c5 := g2.cell 1; have f0 := g2.free 0; have f1 := g2.free 1; simp at c0 c1 c2 c3 c4 c5)
      go_region
      all_goals (
        go_upto_region 8 with fail
        rw [eqP, eqQ]
        refine gen_w (fun W => Blk W w.heap.size #[.int .i64 n, .int .i64 d] 27 ∧ Blk W (w.heap.size + 1) #[.int .i64 p, .int .i64 q] 27 ∧ Blk W (w.heap.size + 1 + 1) #[.int .i64 0, .int .i64 0] 27 ∧ Below w.heap.size w W) ⟨g0, g1, g2, by (repeat (first | exact Below.refl _ _ | assumption | (refine Below.alloc ?_ (by first | omega | (simp; omega) | (simp; done)) _) | (refine Below.setCell ?_ (by first | omega | (simp; omega) | (simp; done)) _) | (refine Below.drew ?_) | (refine belowN ?_ _) | (refine Below.trans ?_ (Below.mono ‹Below _ _ _› (by first | omega | (simp; omega) | (simp; done))))))⟩ ?_
        clear g0 g1 g2 g3 hz c0 c1 c2 c3 c4 c5 f0 f1 hw4 hw5 hx5 hb5
        clear w5
        rintro w5 ⟨g0, g1, g2, hw5⟩
        have g0b := g0; have g1b := g1; have g2b := g2
        have hz := g2.lt; have c0 := g0.cell 0; have c1 := g0.cell 1; have c2 := g1.cell 0; have c3 := g1.cell 1; have c4 := g2.cell 0; have c5 := g2.cell 1; have f0 := g2.free 0; have f1 := g2.free 1; simp at c0 c1 c2 c3 c4 c5
        go_cut [10] (fun s10 wx => ∃ u : Nat, s10 = .pointer (some ⟨u, 0, none⟩) ∧ Blk wx u #[.int .u64 hi, .int .u64 lo] 108 ∧ Below w5.heap.size w5 wx ∧ w5.heap.size ≤ u)
        case first =>
          as_aux_lemma =>
            have nz1 : w5.heap.size ≠ w.heap.size ∧ w5.heap.size ≠ w.heap.size + 1 := ⟨by omega, by omega⟩
            go_region_held (fun W' => W'.cell? ⟨w.heap.size, 0, none⟩ = some (.int .i64 n) ∧ W'.cell? ⟨w.heap.size + 1, 0, none⟩ = some (.int .i64 p)) (first | exact ⟨c0, c2⟩ | go_keep)
              (first | (go_at_call 68; have _ := hx7; (with_reducible refine (HPL.out _).mono ?_); rintro _ w8 ⟨rfl, hb8⟩; have hx8 : Below w5.heap.size w5 w8 := bl2 hx7 (Below.trans (by (repeat (first | exact Below.refl _ _ | assumption | (refine Below.alloc ?_ (by first | omega | (simp; omega) | (simp; done)) _) | (refine Below.setCell ?_ (by first | omega | (simp; omega) | (simp; done)) _) | (refine Below.drew ?_) | (refine belowN ?_ _) | (refine Below.trans ?_ (Below.mono ‹Below _ _ _› (by first | omega | (simp; omega) | (simp; done))))))) (hb8.mono (by simp))); have g0 := g0b.below hx8 g0b.lt; have g1 := g1b.below hx8 g1b.lt; have g2 := g2b.below hx8 g2b.lt; have hz := g2.lt; have c0 := g0.cell 0; have c1 := g0.cell 1; have c2 := g1.cell 0; have c3 := g1.cell 1; have c4 := g2.cell 0; have c5 := g2.cell 1; have f0 := g2.free 0; have f1 := g2.free 1; simp at c0 c1 c2 c3 c4 c5; have nz4 : w8.heap.size ≠ w.heap.size ∧ w8.heap.size ≠ w.heap.size + 1 := ⟨by omega, by omega⟩; (try (refine lay (Blk.below za hb8 ?_) ?_; (focus (first | omega | (simp; omega) | (simp; done))); intro za; have zal := za.lt; have za0 := za.cell 0; have za1 := za.cell 1; have za2 := za.free 0; have za3 := za.free 1; simp at za0 za1)); (try (refine lay (Blk.below zb hb8 ?_) ?_; (focus (first | omega | (simp; omega) | (simp; done))); intro zb; have zbl := zb.lt; have zb0 := zb.cell 0; have zb1 := zb.cell 1; have zb2 := zb.free 0; have zb3 := zb.free 1; simp at zb0 zb1)); (try (refine lay (P := Blk w8 w7.heap.size #[.int .u64 0, .int .u64 0] 108) ?_ ?_; (focus (refine Blk.below ?_ hb8 ?_; (focus (first | exact Blk.new _ _ _ | exact Blk.drew (Blk.new _ _ _))); (focus (first | omega | (simp; omega) | (simp; done))))); intro zc; have zcl := zc.lt; have zc0 := zc.cell 0; have zc1 := zc.cell 1; have zc2 := zc.free 0; have zc3 := zc.free 1; simp at zc0 zc1))) |
                (go_at_call 64; have _ := hx6; (with_reducible refine (HT4.out _).mono ?_); rintro _ w7 ⟨rfl, hb7⟩; have hx7 : Below w5.heap.size w5 w7 := bl2 hx6 (Below.trans (by (repeat (first | exact Below.refl _ _ | assumption | (refine Below.alloc ?_ (by first | omega | (simp; omega) | (simp; done)) _) | (refine Below.setCell ?_ (by first | omega | (simp; omega) | (simp; done)) _) | (refine Below.drew ?_) | (refine belowN ?_ _) | (refine Below.trans ?_ (Below.mono ‹Below _ _ _› (by first | omega | (simp; omega) | (simp; done))))))) (hb7.mono (by simp))); have g0 := g0b.below hx7 g0b.lt; have g1 := g1b.below hx7 g1b.lt; have g2 := g2b.below hx7 g2b.lt; have hz := g2.lt; have c0 := g0.cell 0; have c1 := g0.cell 1; have c2 := g1.cell 0; have c3 := g1.cell 1; have c4 := g2.cell 0; have c5 := g2.cell 1; have f0 := g2.free 0; have f1 := g2.free 1; simp at c0 c1 c2 c3 c4 c5; have nz3 : w7.heap.size ≠ w.heap.size ∧ w7.heap.size ≠ w.heap.size + 1 := ⟨by omega, by omega⟩; (try (refine lay (Blk.below za hb7 ?_) ?_; (focus (first | omega | (simp; omega) | (simp; done))); intro za; have zal := za.lt; have za0 := za.cell 0; have za1 := za.cell 1; have za2 := za.free 0; have za3 := za.free 1; simp at za0 za1)); (try (refine lay (P := Blk w7 w6.heap.size #[.int .u64 0, .int .u64 0] 108) ?_ ?_; (focus (refine Blk.below ?_ hb7 ?_; (focus (first | exact Blk.new _ _ _ | exact Blk.drew (Blk.new _ _ _))); (focus (first | omega | (simp; omega) | (simp; done))))); intro zb; have zbl := zb.lt; have zb0 := zb.cell 0; have zb1 := zb.cell 1; have zb2 := zb.free 0; have zb3 := zb.free 1; simp at zb0 zb1))) |
                (go_at_call 64; (with_reducible refine (HT3.out _).mono ?_); rintro _ w6 ⟨rfl, hb6⟩; have hx6 : Below w5.heap.size w5 w6 := Below.trans (by (repeat (first | exact Below.refl _ _ | assumption | (refine Below.alloc ?_ (by first | omega | (simp; omega) | (simp; done)) _) | (refine Below.setCell ?_ (by first | omega | (simp; omega) | (simp; done)) _) | (refine Below.drew ?_) | (refine belowN ?_ _) | (refine Below.trans ?_ (Below.mono ‹Below _ _ _› (by first | omega | (simp; omega) | (simp; done))))))) (hb6.mono (by simp)); have g0 := g0b.below hx6 g0b.lt; have g1 := g1b.below hx6 g1b.lt; have g2 := g2b.below hx6 g2b.lt; have hz := g2.lt; have c0 := g0.cell 0; have c1 := g0.cell 1; have c2 := g1.cell 0; have c3 := g1.cell 1; have c4 := g2.cell 0; have c5 := g2.cell 1; have f0 := g2.free 0; have f1 := g2.free 1; simp at c0 c1 c2 c3 c4 c5; have nz2 : w6.heap.size ≠ w.heap.size ∧ w6.heap.size ≠ w.heap.size + 1 := ⟨by omega, by omega⟩; (try (refine lay (P := Blk w6 w5.heap.size #[.int .u64 0, .int .u64 0] 108) ?_ ?_; (focus (refine Blk.below ?_ hb6 ?_; (focus (first | exact Blk.new _ _ _ | exact Blk.drew (Blk.new _ _ _))); (focus (first | omega | (simp; omega) | (simp; done))))); intro za; have zal := za.lt; have za0 := za.cell 0; have za1 := za.cell 1; have za2 := za.free 0; have za3 := za.free 1; simp at za0 za1))))
            all_goals (
              go_wp2_with fail
              go_meet
              first |
                exact ⟨_, rfl, Blk.set2 za _ _, below_set2 hx8 (Nat.le_refl _) _ _, Nat.le_refl _⟩ |
                exact ⟨_, rfl, Blk.set2 zb _ _, below_set2 hx8 hx6.size _ _, hx6.size⟩ |
                exact ⟨_, rfl, Blk.set2 zc _ _, below_set2 hx8 hx7.size _ _, hx7.size⟩ |
                exact ⟨_, rfl, Blk.at_ rfl, hx8.alloc hx8.size _, hx8.size⟩)
        case rest =>
          obtain ⟨u, rfl, gu, hcx, hwu⟩ := hcut
          rename World => w6
          have g2 := g2b.below hcx g2b.lt
          have hw6 := bl2 hw5 hcx
          have hz5 := g2b.lt
          clear g0 g1 g0b g1b c0 c1 c2 c3 c4 c5 f0 f1 hz
          have g2c := g2; have guc := gu
          have hz := g2.lt; have lu := gu.lt; have u0 := gu.cell 0; have u1 := gu.cell 1; have c4 := g2.cell 0; have c5 := g2.cell 1; have f0 := g2.free 0; have f1 := g2.free 1; simp at u0 u1 c4 c5
          have nzu : u ≠ w.heap.size + 1 + 1 := by omega
          have nzu2 : w.heap.size + 1 + 1 ≠ u := by omega
          go_wp2_with
            (first | (go_at_call 67; have _ := hx7; refine (HG2.out _ _ (by first | omega | (simp; omega) | (simp; done))).mono ?_; rintro _ w8 ⟨rfl, hb8⟩; have hx8 : Below w6.heap.size w6 w8 := bl2 hx7 (Below.trans (by (repeat (first | exact Below.refl _ _ | assumption | (refine Below.alloc ?_ (by first | omega | (simp; omega) | (simp; done)) _) | (refine Below.setCell ?_ (by first | omega | (simp; omega) | (simp; done)) _) | (refine Below.drew ?_) | (refine belowN ?_ _) | (refine Below.trans ?_ (Below.mono ‹Below _ _ _› (by first | omega | (simp; omega) | (simp; done))))))) (hb8.mono (by simp))); have g2 := g2c.below hx8 g2c.lt; have gu := guc.below hx8 guc.lt; have hz := g2.lt; have lu := gu.lt; have u0 := gu.cell 0; have u1 := gu.cell 1; have c4 := g2.cell 0; have c5 := g2.cell 1; have f0 := g2.free 0; have f1 := g2.free 1; simp at u0 u1 c4 c5) |
              (go_at_call 69; (with_reducible refine (HM.out _).mono ?_); rintro _ w7 ⟨rfl, hb7⟩; have hx7 : Below w6.heap.size w6 w7 := Below.trans (by (repeat (first | exact Below.refl _ _ | assumption | (refine Below.alloc ?_ (by first | omega | (simp; omega) | (simp; done)) _) | (refine Below.setCell ?_ (by first | omega | (simp; omega) | (simp; done)) _) | (refine Below.drew ?_) | (refine belowN ?_ _) | (refine Below.trans ?_ (Below.mono ‹Below _ _ _› (by first | omega | (simp; omega) | (simp; done))))))) (hb7.mono (by simp)); have g2 := g2c.below hx7 g2c.lt; have gu := guc.below hx7 guc.lt; have hz := g2.lt; have lu := gu.lt; have u0 := gu.cell 0; have u1 := gu.cell 1; have c4 := g2.cell 0; have c5 := g2.cell 1; have f0 := g2.free 0; have f1 := g2.free 1; simp at u0 u1 c4 c5) |
              (go_at_call 70; (with_reducible refine (HS1.out _).mono ?_); rintro _ _ ⟨rfl, rfl⟩) |
              (go_at_call 70; (with_reducible refine (HS2.out _ (by first | omega | (simp; omega) | (simp; done))).mono ?_); rintro _ _ ⟨rfl, rfl⟩))
          have hw8 := bl2 hw6 hx8
          refine gen_w (fun W => Blk W (w.heap.size + 1 + 1) #[.int .i64 0, .int .i64 0] 27 ∧ Below w.heap.size w W) ⟨(g2.set2 _ _), by (repeat (first | exact Below.refl _ _ | assumption | (refine Below.alloc ?_ (by first | omega | (simp; omega) | (simp; done)) _) | (refine Below.setCell ?_ (by first | omega | (simp; omega) | (simp; done)) _) | (refine Below.drew ?_) | (refine belowN ?_ _) | (refine Below.trans ?_ (Below.mono ‹Below _ _ _› (by first | omega | (simp; omega) | (simp; done))))))⟩ ?_
          rintro W ⟨gW, hW⟩
          have q0 := gW.cell 0; have q1 := gW.cell 1
          simp at q0 q1
          exact bodyPost_ret (v := .tuple #[.agg #[.int .i64 0, .int .i64 0], .int .i64 10]) (by simp [results, Try.results36, go_sem, q0, q1]) rfl ⟨by rw [HT.out], hW⟩
        )
      )
set_option maxRecDepth 100000 in
set_option maxHeartbeats 10000000 in
theorem either_any (a b : Ch) (w : World) : Calls Try.prog 36 #[.agg #[.int .i64 a.n, .int .i64 a.d], .agg #[.int .i64 b.n, .int .i64 b.d]] w (RetC (eitherR a b) w) := by
  have HI := Lib.hid (isCh2of_any a b)
  by_cases ok : okP a b = true
  · obtain ⟨O1, O2⟩ := okP_iff.1 ok
    have o1 := O1.d1; have o2 := O1.d2; have o3 := O1.n0; have o4 := O1.n1
    have o5 := O2.d1; have o6 := O2.d2; have o7 := O2.n0; have o8 := O2.n1
    have EE := Lib.hid (ef_of O1 O2)
    rw [ok] at HI
    have HT1 := Lib.hid (fun w => times_any a.n b.d w (by omega) (by omega) (by omega) (by omega))
    have HT2 := Lib.hid (fun w => times_any (b.d - b.n) a.d w (by omega) (by omega) (by omega) (by omega))
    have HWC := Lib.hid (fun w => wcompare_any (a.n * b.d) ((b.d - b.n) * a.d) w)
    have HCG := Lib.hid (cmp_gt (x := a.n * b.d) (y := (b.d - b.n) * a.d))
    have HG := Lib.hid (fun W b' h => gcd2_any a.d b.d W b' h (by omega) (by omega) (by omega) (by omega))
    have HE : Hid (eitherR a b = if (b.d - b.n) * a.d < a.n * b.d then (0, 0, 3) else if eP a b * eQ a b ≤ 1000000000000000 ∧ eD a b ≤ 1000000000000000 then (eN a b / eH a b, eD a b, 0) else (0, 0, 10)) := (by unfold eitherR; rw [if_pos ok] : eitherR a b = _)
    clear ok O1 O2
    by_cases hle : (b.d - b.n) * a.d < a.n * b.d
    · have HT : Hid (eitherR a b = (0, 0, 3)) := (by have := HE.out; rw [if_pos hle] at this; exact this : eitherR a b = _)
      have hgt : decide (0 < cmpI (a.n * b.d) ((b.d - b.n) * a.d)) = true := by rw [HCG.out]; simpa using hle
      clear HE HCG hle EE
      obtain ⟨n, hn⟩ : ∃ n, n = a.n := ⟨_, rfl⟩
      obtain ⟨d, hd⟩ : ∃ n, n = a.d := ⟨_, rfl⟩
      obtain ⟨p, hp⟩ : ∃ n, n = b.n := ⟨_, rfl⟩
      obtain ⟨q, hq⟩ : ∃ n, n = b.d := ⟨_, rfl⟩
      obtain ⟨z, hz⟩ : ∃ z, z = cmpI (a.n * b.d) ((b.d - b.n) * a.d) := ⟨_, rfl⟩
      rw [← hz] at HWC hgt
      clear hz
      obtain ⟨x, hx⟩ : ∃ n, n = a.n * b.d := ⟨_, rfl⟩
      obtain ⟨y, hy⟩ : ∃ n, n = (b.d - b.n) * a.d := ⟨_, rfl⟩
      rw [← hx, ← hy] at HWC
      rw [← hx] at HT1
      rw [← hy] at HT2
      rw [← hn, ← hd, ← hp, ← hq] at HI ⊢
      rw [← hn, ← hq] at HT1
      rw [← hp, ← hd, ← hq] at HT2
      rw [← hn] at o3 o4
      rw [← hd] at o1 o2 o4
      rw [← hp] at o7 o8
      rw [← hq] at o5 o6 o8
      clear hn hd hp hq hx hy HG
      go_enter Try.func36, Try.ntmps36
      go_upto_region 4 with (go_at_call 63; refine (HI.out _ _ (by first | omega | (simp; omega) | (simp; done))).mono ?_; rintro _ w1 ⟨rfl, hb1⟩; have g0 : Blk w1 w.heap.size #[.int .i64 n, .int .i64 d] 27 := (((Blk.at_ rfl).alloc _).alloc _).below hb1 (by first | omega | (simp; omega) | (simp; done)); have g1 : Blk w1 (w.heap.size + 1) #[.int .i64 p, .int .i64 q] 27 := ((Blk.at_ (by simp)).alloc _).below hb1 (by first | omega | (simp; omega) | (simp; done)); have g2 : Blk w1 (w.heap.size + 1 + 1) #[.int .i64 0, .int .i64 0] 27 := (Blk.at_ (by simp)).below hb1 (by first | omega | (simp; omega) | (simp; done)); have hz := g2.lt; have c0 := g0.cell 0; have c1 := g0.cell 1; have c2 := g1.cell 0; have c3 := g1.cell 1; have hw1 : Below w.heap.size w w1 := (by (repeat (first | exact Below.refl _ _ | assumption | (refine Below.alloc ?_ (by first | omega | (simp; omega) | (simp; done)) _) | (refine Below.setCell ?_ (by first | omega | (simp; omega) | (simp; done)) _) | (refine Below.drew ?_) | (refine belowN ?_ _) | (refine Below.trans ?_ (Below.mono ‹Below _ _ _› (by first | omega | (simp; omega) | (simp; done))))))); simp at c0 c1 c2 c3)
      obtain ⟨B3, hB3⟩ : ∃ B, B = w1.heap.size := ⟨_, rfl⟩
      have hB4 : w.heap.size + 1 + 1 < B3 := by omega
      refine gen_w (fun W => Blk W w.heap.size #[.int .i64 n, .int .i64 d] 27 ∧ Blk W (w.heap.size + 1) #[.int .i64 p, .int .i64 q] 27 ∧ Blk W (w.heap.size + 1 + 1) #[.int .i64 0, .int .i64 0] 27 ∧ Blk W B3 #[.int .i64 (q - p), .int .i64 q] 27 ∧ Below w.heap.size w W) ⟨g0.alloc _, g1.alloc _, g2.alloc _, Blk.at_ hB3, by (repeat (first | exact Below.refl _ _ | assumption | (refine Below.alloc ?_ (by first | omega | (simp; omega) | (simp; done)) _) | (refine Below.setCell ?_ (by first | omega | (simp; omega) | (simp; done)) _) | (refine Below.drew ?_) | (refine belowN ?_ _) | (refine Below.trans ?_ (Below.mono ‹Below _ _ _› (by first | omega | (simp; omega) | (simp; done))))))⟩ ?_
      rw [← hB3]
      clear hB3 g0 g1 g2 hz c0 c1 c2 c3 hw1 hb1
      clear w1
      rintro w1 ⟨g0, g1, g2, g3, hw1⟩
      have g0b := g0; have g1b := g1; have g2b := g2; have g3b := g3
      have hz := g3.lt; have c0 := g0.cell 0; have c1 := g0.cell 1; have c2 := g1.cell 0; have c3 := g1.cell 1; have c4 := g2.cell 0; have c5 := g2.cell 1; have c6 := g3.cell 0; have c7 := g3.cell 1; have f0 := g2.free 0; have f1 := g2.free 1; simp at c0 c1 c2 c3 c4 c5 c6 c7
      go_region_held (fun W' => W'.cell? ⟨w.heap.size, 0, none⟩ = some (.int .i64 n) ∧ W'.cell? ⟨w.heap.size, 1, none⟩ = some (.int .i64 d) ∧ W'.cell? ⟨B3, 0, none⟩ = some (.int .i64 (q - p)) ∧ W'.cell? ⟨B3, 1, none⟩ = some (.int .i64 q)) (exact ⟨c0, c1, c6, c7⟩)
        (first | (go_at_call 65; have _ := hx3; (with_reducible refine (HWC.out _).mono ?_); rintro _ w4 ⟨rfl, hb4⟩; have hx4 : Below w1.heap.size w1 w4 := bl2 hx3 (Below.trans (by (repeat (first | exact Below.refl _ _ | assumption | (refine Below.alloc ?_ (by first | omega | (simp; omega) | (simp; done)) _) | (refine Below.setCell ?_ (by first | omega | (simp; omega) | (simp; done)) _) | (refine Below.drew ?_) | (refine belowN ?_ _) | (refine Below.trans ?_ (Below.mono ‹Below _ _ _› (by first | omega | (simp; omega) | (simp; done))))))) (hb4.mono (by simp))); have g0 := g0b.below hx4 g0b.lt; have g1 := g1b.below hx4 g1b.lt; have g2 := g2b.below hx4 g2b.lt; have g3 := g3b.below hx4 g3b.lt; have hz := g3.lt; have c0 := g0.cell 0; have c1 := g0.cell 1; have c2 := g1.cell 0; have c3 := g1.cell 1; have c4 := g2.cell 0; have c5 := g2.cell 1; have c6 := g3.cell 0; have c7 := g3.cell 1; have f0 := g2.free 0; have f1 := g2.free 1; simp at c0 c1 c2 c3 c4 c5 c6 c7) |
          (go_at_call 64; have _ := hx2; (with_reducible refine (HT2.out _).mono ?_); rintro _ w3 ⟨rfl, hb3⟩; have hx3 : Below w1.heap.size w1 w3 := bl2 hx2 (Below.trans (by (repeat (first | exact Below.refl _ _ | assumption | (refine Below.alloc ?_ (by first | omega | (simp; omega) | (simp; done)) _) | (refine Below.setCell ?_ (by first | omega | (simp; omega) | (simp; done)) _) | (refine Below.drew ?_) | (refine belowN ?_ _) | (refine Below.trans ?_ (Below.mono ‹Below _ _ _› (by first | omega | (simp; omega) | (simp; done))))))) (hb3.mono (by simp))); have g0 := g0b.below hx3 g0b.lt; have g1 := g1b.below hx3 g1b.lt; have g2 := g2b.below hx3 g2b.lt; have g3 := g3b.below hx3 g3b.lt; have hz := g3.lt; have c0 := g0.cell 0; have c1 := g0.cell 1; have c2 := g1.cell 0; have c3 := g1.cell 1; have c4 := g2.cell 0; have c5 := g2.cell 1; have c6 := g3.cell 0; have c7 := g3.cell 1; have f0 := g2.free 0; have f1 := g2.free 1; simp at c0 c1 c2 c3 c4 c5 c6 c7) |
          (go_at_call 64; (with_reducible refine (HT1.out _).mono ?_); rintro _ w2 ⟨rfl, hb2⟩; have hx2 : Below w1.heap.size w1 w2 := Below.trans (by (repeat (first | exact Below.refl _ _ | assumption | (refine Below.alloc ?_ (by first | omega | (simp; omega) | (simp; done)) _) | (refine Below.setCell ?_ (by first | omega | (simp; omega) | (simp; done)) _) | (refine Below.drew ?_) | (refine belowN ?_ _) | (refine Below.trans ?_ (Below.mono ‹Below _ _ _› (by first | omega | (simp; omega) | (simp; done))))))) (hb2.mono (by simp)); have g0 := g0b.below hx2 g0b.lt; have g1 := g1b.below hx2 g1b.lt; have g2 := g2b.below hx2 g2b.lt; have g3 := g3b.below hx2 g3b.lt; have hz := g3.lt; have c0 := g0.cell 0; have c1 := g0.cell 1; have c2 := g1.cell 0; have c3 := g1.cell 1; have c4 := g2.cell 0; have c5 := g2.cell 1; have c6 := g3.cell 0; have c7 := g3.cell 1; have f0 := g2.free 0; have f1 := g2.free 1; simp at c0 c1 c2 c3 c4 c5 c6 c7))
      have hw4 := bl2 hw1 hx4
      all_goals (
        go_wp2
        refine gen_w (fun W => Blk W (w.heap.size + 1 + 1) #[.int .i64 0, .int .i64 0] 27 ∧ Below w.heap.size w W) ⟨(g2.set2 _ _), by (repeat (first | exact Below.refl _ _ | assumption | (refine Below.alloc ?_ (by first | omega | (simp; omega) | (simp; done)) _) | (refine Below.setCell ?_ (by first | omega | (simp; omega) | (simp; done)) _) | (refine Below.drew ?_) | (refine belowN ?_ _) | (refine Below.trans ?_ (Below.mono ‹Below _ _ _› (by first | omega | (simp; omega) | (simp; done))))))⟩ ?_
        rintro W ⟨gW, hW⟩
        have q0 := gW.cell 0; have q1 := gW.cell 1
        simp at q0 q1
        exact bodyPost_ret (v := .tuple #[.agg #[.int .i64 0, .int .i64 0], .int .i64 3]) (by simp [results, Try.results36, go_sem, q0, q1]) rfl ⟨by rw [HT.out], hW⟩
        )
    · have EO := EE.out
      have x1 := EO.g1; have x2 := EO.gl; have x3 := EO.p1; have x4 := EO.pl; have x5 := EO.q1; have x6 := EO.ql; have x7 := EO.n0; have x8 := EO.nl; have x9 := EO.h1; have x10 := EO.hg; have x11 := EO.gh1; have x12 := EO.ghl; have x13 := EO.aq; have x14 := EO.bp; have x15 := EO.nd
      have HFIT := Lib.hid (fun hs => EO.fits hle hs)
      have hgt : decide (0 < cmpI (a.n * b.d) ((b.d - b.n) * a.d)) = false := by rw [HCG.out]; simpa using hle
      have HE2 : Hid (eitherR a b = if eP a b * eQ a b ≤ 1000000000000000 ∧ eD a b ≤ 1000000000000000 then (eN a b / eH a b, eD a b, 0) else (0, 0, 10)) := (by have := HE.out; rw [if_neg hle] at this; exact this : eitherR a b = _)
      have HT3 := Lib.hid (fun w => times_any a.n (eQ a b) w (by omega) (by omega) (by omega) (by omega))
      have HT4 := Lib.hid (fun w => times_any b.n (eP a b) w (by omega) (by omega) (by omega) (by omega))
      have HPL := Lib.hid (fun w => wplus_any (a.n * eQ a b) (b.n * eP a b) w x13 x14 (by omega))
      rw [← x15] at HPL
      have HM := Lib.hid (fun w => wmod_any (eN a b) (eG a b) w x7 (by omega) (by omega) (by omega))
      obtain ⟨m0, m1⟩ := rest_bd (n := eN a b) (y := eG a b) (by omega)
      have HG2 := Lib.hid (fun W b' h => gcd2_any (eN a b % eG a b) (eG a b) W b' h (by omega) (by omega) (by omega) (by omega))
      have HO := Lib.hid (fun w k1 k2 => wover_any (eN a b) (eH a b) w x7 (by omega) (by omega) k1 k2)
      have HS1 := Lib.hid (fun w => small_any (eP a b) (eQ a b) w (by omega) (by omega) (by omega) (by omega))
      have pq0 := Int.mul_nonneg (show 0 ≤ eP a b by omega) (show 0 ≤ eQ a b by omega)
      have HS2 := Lib.hid (fun w k => small_any (eP a b * eQ a b) (eG a b / eH a b) w pq0 (by omega) k (by omega))
      have eqP : a.d / eG a b = eP a b := rfl
      have eqQ : b.d / eG a b = eQ a b := rfl
      rw [show gI a.d b.d = eG a b from rfl] at HG
      rw [show gI (eN a b % eG a b) (eG a b) = eH a b from rfl] at HG2
      have HW : wideV (eN a b) = .agg #[.int .u64 (eN a b / 18446744073709551616), .int .u64 (eN a b % 18446744073709551616)] := rfl
      rw [HW] at HPL HM HO
      unfold eD at HE2
      have gH : eG a b / eH a b = eG a b / eH a b := rfl
      exact either_main a.n a.d b.n b.d (eG a b) (eP a b) (eQ a b) (a.n * eQ a b) (b.n * eP a b) (eN a b) (eN a b % eG a b) (eH a b) (eG a b / eH a b) (eN a b / eH a b) (eN a b / 18446744073709551616) (eN a b % 18446744073709551616) (a.n * b.d) ((b.d - b.n) * a.d) (cmpI (a.n * b.d) ((b.d - b.n) * a.d)) (eitherR a b) w HI HT1 HT2 HWC hgt HG HT3 HT4 HPL HM HG2 HS1 HS2 HO HFIT HE2 eqP eqQ rfl o1 o2 o3 o4 o5 o6 o7 o8 (by omega) (by omega) x3 x4 x5 x6 (by omega) x11 x12 pq0
  · have ok' : okP a b = false := by simpa using ok
    have HT : Hid (eitherR a b = (0, 0, 2)) := (by unfold eitherR; rw [if_neg ok] : eitherR a b = _)
    rw [ok'] at HI
    clear ok ok'
    go_enter Try.func36, Try.ntmps36
    go_wp2_with (go_at_call 63; refine (HI.out _ _ (by first | omega | (simp; omega) | (simp; done))).mono ?_; rintro _ w1 ⟨rfl, hb1⟩; have g1 : Blk w1 (w.heap.size + 1 + 1) #[.int .i64 0, .int .i64 0] 27 := (Blk.at_ (by simp)).below hb1 (by first | omega | (simp; omega) | (simp; done)); have hz := g1.lt; have f0 := g1.free 0; have f1 := g1.free 1; have e0 := g1.cell 0; have e1 := g1.cell 1; simp at e0 e1)
    refine gen_w (fun W => Blk W (w.heap.size + 1 + 1) #[.int .i64 0, .int .i64 0] 27 ∧ Below w.heap.size w W) ⟨(g1.set2 _ _), by (repeat (first | exact Below.refl _ _ | assumption | (refine Below.alloc ?_ (by first | omega | (simp; omega) | (simp; done)) _) | (refine Below.setCell ?_ (by first | omega | (simp; omega) | (simp; done)) _) | (refine Below.drew ?_) | (refine belowN ?_ _) | (refine Below.trans ?_ (Below.mono ‹Below _ _ _› (by first | omega | (simp; omega) | (simp; done))))))⟩ ?_
    rintro W ⟨gW, hW⟩
    have q0 := gW.cell 0; have q1 := gW.cell 1
    simp at q0 q1
    exact bodyPost_ret (v := .tuple #[.agg #[.int .i64 0, .int .i64 0], .int .i64 2]) (by simp [results, Try.results36, go_sem, q0, q1]) rfl ⟨by rw [HT.out], hW⟩
end Go.Proofs.Ytiikkcifdhcejaa

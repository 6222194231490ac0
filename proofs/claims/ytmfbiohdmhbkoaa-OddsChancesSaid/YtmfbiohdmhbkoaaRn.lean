/- The reference: Both, Either. -/
import Derived.Test.YtmfbiohdmhbkoaaRm
import Derived.Test.YtmfbiohdmhbkoaaPz
import Derived.Test.YtmfbiohdmhbkoaaRc
namespace Go.Proofs.Ytmfbiohdmhbkoaa
open Go.RowKit

theorem rsx {W : World} {b t : Nat} {cs : Array Value} (h : Blk W b cs t) : Blk W.drew b cs t := h
theorem Blk.set2r {W : World} {b t : Nat} {x y : Value} (h : Blk W b #[x, y] t) (u v : Value) : Blk ((W.setCell ⟨b, 0, none⟩ u).setCell ⟨b, 1, none⟩ v) b #[u, v] t := by
  have := (h.set 0 u).set 1 v
  simpa using this
set_option maxRecDepth 100000 in
set_option maxHeartbeats 4000000 in
theorem rboth_any (n d p q : Int) (w : World) : Calls Try.prog 47 #[.agg #[.int .i64 n, .int .i64 d], .agg #[.int .i64 p, .int .i64 q]] w (RetC (bothR ⟨n, d⟩ ⟨p, q⟩) w) := by
  have HA := Lib.hid (fun W => rchanceB_any n d W)
  have HB := Lib.hid (fun W => rchanceB_any p q W)
  by_cases ok1 : okC ⟨n, d⟩ = true
  · by_cases ok2 : okC ⟨p, q⟩ = true
    · have okp : okP ⟨n, d⟩ ⟨p, q⟩ = true := by unfold okP; rw [ok1, ok2]; rfl
      have O1 := okC_iff.1 ok1; have O2 := okC_iff.1 ok2
      obtain ⟨x0, xy, xd1, yd1, xd2, yd2, xn0, yn0, xn1, yn1⟩ := both_bd O1 O2
      have HT0 : Hid (bothR ⟨n, d⟩ ⟨p, q⟩ = if ratD n q * ratD p d ≤ 1000000000000000 then (ratN n q * ratN p d, ratD n q * ratD p d, 0) else (0, 0, 10)) := (by unfold bothR; rw [if_pos okp] : bothR ⟨n, d⟩ ⟨p, q⟩ = _)
      obtain ⟨o1, o2, o3, o4, -⟩ := O1
      obtain ⟨o5, o6, o7, o8, -⟩ := O2
      simp only at o1 o2 o3 o4 o5 o6 o7 o8 x0 xy xd1 yd1 xd2 yd2 xn0 yn0 xn1 yn1
      have HG := Lib.hid (fun W => rdiv_any n q W o3 (by omega) (by omega) (by omega))
      have HH := Lib.hid (fun W => rdiv_any p d W o7 (by omega) (by omega) (by omega))
      have g0p : 0 < gI n q := gI_pos (.inr (by omega))
      have h0p : 0 < gI p d := gI_pos (.inr (by omega))
      have HOV := Lib.hid (fun W => rover_any (ratD p d) (ratD n q) W (by omega) (by omega) (by omega) (by omega))
      have e1 : n / gI n q = ratN n q := rfl
      have e2 : q / gI n q = ratD n q := rfl
      have e3 : p / gI p d = ratN p d := rfl
      have e4 : d / gI p d = ratD p d := rfl
      obtain ⟨g, hg⟩ : ∃ g, g = gI n q := ⟨_, rfl⟩
      obtain ⟨h, hh⟩ : ∃ g, g = gI p d := ⟨_, rfl⟩
      rw [← hg] at HG g0p e1 e2
      rw [← hh] at HH h0p e3 e4
      obtain ⟨xn, hxn⟩ : ∃ x, x = ratN n q := ⟨_, rfl⟩
      obtain ⟨xd, hxd⟩ : ∃ x, x = ratD n q := ⟨_, rfl⟩
      obtain ⟨yn, hyn⟩ : ∃ x, x = ratN p d := ⟨_, rfl⟩
      obtain ⟨yd, hyd⟩ : ∃ x, x = ratD p d := ⟨_, rfl⟩
      rw [← hxn] at x0 xy xn0 xn1 e1 HT0
      rw [← hxd] at xy xd1 xd2 e2 HOV HT0
      rw [← hyn] at x0 xy yn0 yn1 e3 HT0
      rw [← hyd] at xy yd1 yd2 e4 HOV HT0
      have g00 : (g == 0) = false := by simp; omega
      have h00 : (h == 0) = false := by simp; omega
      have t1 : n.tdiv g = xn := by rw [Int.tdiv_eq_ediv_of_nonneg o3]; exact e1
      have t2 : q.tdiv g = xd := by rw [Int.tdiv_eq_ediv_of_nonneg (by omega)]; exact e2
      have t3 : p.tdiv h = yn := by rw [Int.tdiv_eq_ediv_of_nonneg o7]; exact e3
      have t4 : d.tdiv h = yd := by rw [Int.tdiv_eq_ediv_of_nonneg (by omega)]; exact e4
      have w1' : IntKind.i64.wrap xn = xn := IntWalk.i64_in _ ⟨by omega, by omega⟩
      have w2' : IntKind.i64.wrap xd = xd := IntWalk.i64_in _ ⟨by omega, by omega⟩
      have w3' : IntKind.i64.wrap yn = yn := IntWalk.i64_in _ ⟨by omega, by omega⟩
      have w4' : IntKind.i64.wrap yd = yd := IntWalk.i64_in _ ⟨by omega, by omega⟩
      rw [ok1] at HA
      rw [ok2] at HB
      clear ok1 ok2 okp hg hh hxn hxd hyn hyd
      go_enter Try.func47, Try.ntmps47
      go_upto_region 3 with (first | (go_at_call 45; have _ := hb1; (with_reducible refine (HB.out _).mono ?_); rintro _ w2 ⟨rfl, hb2⟩) | (go_at_call 45; (with_reducible refine (HA.out _).mono ?_); rintro _ w1 ⟨rfl, hb1⟩; have g0 : Blk w1 w.heap.size #[.int .i64 n, .int .i64 d] 51 := (((Blk.at_ rfl).alloc _).alloc _).below hb1 (by first | omega | (simp; omega) | (simp; done)); have g1 : Blk w1 (w.heap.size + 1) #[.int .i64 p, .int .i64 q] 51 := ((Blk.at_ (by simp)).alloc _).below hb1 (by first | omega | (simp; omega) | (simp; done)); have g2 : Blk w1 (w.heap.size + 1 + 1) #[.int .i64 0, .int .i64 0] 51 := (Blk.at_ (by simp)).below hb1 (by first | omega | (simp; omega) | (simp; done)); have hw1 : Below w.heap.size w w1 := (by (repeat (first | exact Below.refl _ _ | assumption | (refine Below.alloc ?_ (by first | omega | (simp; omega) | (simp; done)) _) | (refine Below.setCell ?_ (by first | omega | (simp; omega) | (simp; done)) _) | (refine Below.drew ?_) | (refine belowN ?_ _) | (refine Below.trans ?_ (Below.mono ‹Below _ _ _› (by first | omega | (simp; omega) | (simp; done))))))); have c2 := g1.cell 0; have c3 := g1.cell 1; simp at c2 c3))
      have g0 := g0.below hb2 g0.lt; have g1 := g1.below hb2 g1.lt; have g2 := g2.below hb2 g2.lt
      have hw2 := bl2 hw1 hb2
      have c0 := g0.cell 0; have c1 := g0.cell 1; have c2 := g1.cell 0; have c3 := g1.cell 1
      simp at c0 c1 c2 c3
      clear hb1 hb2 hw1
      (refine wp_region_ext (by kernel_rfl) (by kernel_rfl) ?_; (repeat (go_big_quiet_step((go_at_call 63; (first | with_reducible exact Calls.ext_of (HG.out _) | with_reducible exact Calls.ext_of (HH.out _)))))); with_reducible refine wpQuiet_nil ?_; intro w9 hw9; have hb9 := ext_below hw9; clear hw9)
      have g0 := g0.below hb9 g0.lt; have g1 := g1.below hb9 g1.lt; have g2 := g2.below hb9 g2.lt
      have hw3 := bl2 hw2 hb9
      have c0 := g0.cell 0; have c1 := g0.cell 1; have c2 := g1.cell 0; have c3 := g1.cell 1
      simp at c0 c1 c2 c3
      clear hb9 hw2
      go_upto_region 4 with fail
      obtain ⟨ov, heov⟩ : ∃ ov, overB yd xd = ov := ⟨_, rfl⟩
      rw [heov] at HOV
      have HEO := Lib.hid heov
      clear heov
      (refine wp_region_ext (by kernel_rfl) (by kernel_rfl) ?_; (repeat (go_big_quiet_step((go_at_call 64; with_reducible exact Calls.ext_of (HOV.out _))))); with_reducible refine wpQuiet_nil ?_; intro w9 hw9; have hb9 := ext_below hw9; clear hw9)
      have g0 := g0.below hb9 g0.lt; have g1 := g1.below hb9 g1.lt; have g2 := g2.below hb9 g2.lt
      have hw4 := bl2 hw3 hb9
      have c0 := g0.cell 0; have c1 := g0.cell 1; have c2 := g1.cell 0; have c3 := g1.cell 1
      simp at c0 c1 c2 c3
      have hz := g2.lt
      have c4 := g2.cell 0; have c5 := g2.cell 1; have f0 := g2.free 0; have f1 := g2.free 1
      simp at c4 c5
      clear hb9 hw3
      cases ov with
      | true =>
        have hov : 1000000000000000 < yd * xd := by have h := HEO.out; unfold overB at h; exact of_decide_eq_true h
        have HT : Hid (bothR ⟨n, d⟩ ⟨p, q⟩ = (0, 0, 10)) := (by rw [HT0.out, if_neg (by rw [Int.mul_comm]; omega)] : bothR ⟨n, d⟩ ⟨p, q⟩ = _)
        go_wp2
        refine gen_w (fun W => Blk W (w.heap.size + 1 + 1) #[.int .i64 0, .int .i64 0] 51 ∧ Below w.heap.size w W) ⟨(Blk.set2r g2 _ _), by (repeat (first | exact Below.refl _ _ | assumption | (refine Below.alloc ?_ (by first | omega | (simp; omega) | (simp; done)) _) | (refine Below.setCell ?_ (by first | omega | (simp; omega) | (simp; done)) _) | (refine Below.drew ?_) | (refine belowN ?_ _) | (refine Below.trans ?_ (Below.mono ‹Below _ _ _› (by first | omega | (simp; omega) | (simp; done))))))⟩ ?_
        rintro W ⟨gW, hW⟩
        have q0 := gW.cell 0; have q1 := gW.cell 1
        simp at q0 q1
        exact bodyPost_ret (v := .tuple #[.agg #[.int .i64 0, .int .i64 0], .int .i64 10]) (by simp [results, Try.results47, go_sem, q0, q1]) rfl ⟨by rw [HT.out], hW⟩
      | false =>
        have hov : ¬ 1000000000000000 < yd * xd := by have h := HEO.out; unfold overB at h; exact of_decide_eq_false h
        have hxy : xd * yd ≤ 1000000000000000 := by rw [Int.mul_comm]; omega
        have HT : Hid (bothR ⟨n, d⟩ ⟨p, q⟩ = (xn * yn, yd * xd, 0)) := (by rw [HT0.out, if_pos hxy, Int.mul_comm xd] : bothR ⟨n, d⟩ ⟨p, q⟩ = _)
        have m1 : 0 ≤ yd * xd := Int.mul_nonneg (by omega) (by omega)
        have m2 : yd * xd ≤ 1000000000000000 := by omega
        have m3 : xn * yn ≤ 1000000000000000 := by omega
        clear xy hxy
        go_upto_region 6 with fail
        go_region
        all_goals (
          go_wp2
          refine gen_w (fun W => Blk W (w.heap.size + 1 + 1) #[.int .i64 (xn * yn), .int .i64 (yd * xd)] 51 ∧ Below w.heap.size w W) ⟨(Blk.set2r g2 _ _), by (repeat (first | exact Below.refl _ _ | assumption | (refine Below.alloc ?_ (by first | omega | (simp; omega) | (simp; done)) _) | (refine Below.setCell ?_ (by first | omega | (simp; omega) | (simp; done)) _) | (refine Below.drew ?_) | (refine belowN ?_ _) | (refine Below.trans ?_ (Below.mono ‹Below _ _ _› (by first | omega | (simp; omega) | (simp; done))))))⟩ ?_
          rintro W ⟨gW, hW⟩
          have q0 := gW.cell 0; have q1 := gW.cell 1
          simp at q0 q1
          exact bodyPost_ret (v := .tuple #[.agg #[.int .i64 (xn * yn), .int .i64 (yd * xd)], .int .i64 0]) (by simp [results, Try.results47, go_sem, q0, q1]) rfl ⟨by rw [HT.out], hW⟩
          )
    · have ok2' : okC ⟨p, q⟩ = false := by simpa using ok2
      have okp : ¬ okP ⟨n, d⟩ ⟨p, q⟩ = true := by unfold okP; rw [ok1, ok2']; decide
      have HT : Hid (bothR ⟨n, d⟩ ⟨p, q⟩ = (0, 0, 2)) := (by unfold bothR; rw [if_neg okp] : bothR ⟨n, d⟩ ⟨p, q⟩ = _)
      rw [ok1] at HA
      rw [ok2'] at HB
      clear ok1 ok2 ok2' okp
      go_enter Try.func47, Try.ntmps47
      go_wp2_with (first | (go_at_call 45; have _ := hb1; (with_reducible refine (HB.out _).mono ?_); rintro _ w2 ⟨rfl, hb2⟩; have g2 := g2.below hb2 g2.lt; have hz := g2.lt; have c4 := g2.cell 0; have c5 := g2.cell 1; have f0 := g2.free 0; have f1 := g2.free 1; simp at c4 c5; have hw2 := bl2 hw1 hb2) | (go_at_call 45; (with_reducible refine (HA.out _).mono ?_); rintro _ w1 ⟨rfl, hb1⟩; have g2 : Blk w1 (w.heap.size + 1 + 1) #[.int .i64 0, .int .i64 0] 51 := (Blk.at_ (by simp)).below hb1 (by first | omega | (simp; omega) | (simp; done)); have g1 : Blk w1 (w.heap.size + 1) #[.int .i64 p, .int .i64 q] 51 := ((Blk.at_ (by simp)).alloc _).below hb1 (by first | omega | (simp; omega) | (simp; done)); have c2 := g1.cell 0; have c3 := g1.cell 1; simp at c2 c3; have hz := g2.lt; have c4 := g2.cell 0; have c5 := g2.cell 1; have f0 := g2.free 0; have f1 := g2.free 1; simp at c4 c5; have hw1 : Below w.heap.size w w1 := (by (repeat (first | exact Below.refl _ _ | assumption | (refine Below.alloc ?_ (by first | omega | (simp; omega) | (simp; done)) _) | (refine Below.setCell ?_ (by first | omega | (simp; omega) | (simp; done)) _) | (refine Below.drew ?_) | (refine belowN ?_ _) | (refine Below.trans ?_ (Below.mono ‹Below _ _ _› (by first | omega | (simp; omega) | (simp; done)))))))))
      refine gen_w (fun W => Blk W (w.heap.size + 1 + 1) #[.int .i64 0, .int .i64 0] 51 ∧ Below w.heap.size w W) ⟨(Blk.set2r g2 _ _), by (repeat (first | exact Below.refl _ _ | assumption | (refine Below.alloc ?_ (by first | omega | (simp; omega) | (simp; done)) _) | (refine Below.setCell ?_ (by first | omega | (simp; omega) | (simp; done)) _) | (refine Below.drew ?_) | (refine belowN ?_ _) | (refine Below.trans ?_ (Below.mono ‹Below _ _ _› (by first | omega | (simp; omega) | (simp; done))))))⟩ ?_
      rintro W ⟨gW, hW⟩
      have q0 := gW.cell 0; have q1 := gW.cell 1
      simp at q0 q1
      exact bodyPost_ret (v := .tuple #[.agg #[.int .i64 0, .int .i64 0], .int .i64 2]) (by simp [results, Try.results47, go_sem, q0, q1]) rfl ⟨by rw [HT.out], hW⟩
  · have ok1' : okC ⟨n, d⟩ = false := by simpa using ok1
    have okp : ¬ okP ⟨n, d⟩ ⟨p, q⟩ = true := by unfold okP; rw [ok1']; simp
    have HT : Hid (bothR ⟨n, d⟩ ⟨p, q⟩ = (0, 0, 2)) := (by unfold bothR; rw [if_neg okp] : bothR ⟨n, d⟩ ⟨p, q⟩ = _)
    rw [ok1'] at HA
    clear ok1 ok1' okp
    go_enter Try.func47, Try.ntmps47
    go_wp2_with (first | (go_at_call 45; have _ := hb1; (with_reducible refine (HB.out _).mono ?_); rintro _ w2 ⟨rfl, hb2⟩; have g2 := g2.below hb2 g2.lt; have hz := g2.lt; have c4 := g2.cell 0; have c5 := g2.cell 1; have f0 := g2.free 0; have f1 := g2.free 1; simp at c4 c5; have hw2 := bl2 hw1 hb2) | (go_at_call 45; (with_reducible refine (HA.out _).mono ?_); rintro _ w1 ⟨rfl, hb1⟩; have g2 : Blk w1 (w.heap.size + 1 + 1) #[.int .i64 0, .int .i64 0] 51 := (Blk.at_ (by simp)).below hb1 (by first | omega | (simp; omega) | (simp; done)); have g1 : Blk w1 (w.heap.size + 1) #[.int .i64 p, .int .i64 q] 51 := ((Blk.at_ (by simp)).alloc _).below hb1 (by first | omega | (simp; omega) | (simp; done)); have c2 := g1.cell 0; have c3 := g1.cell 1; simp at c2 c3; have hz := g2.lt; have c4 := g2.cell 0; have c5 := g2.cell 1; have f0 := g2.free 0; have f1 := g2.free 1; simp at c4 c5; have hw1 : Below w.heap.size w w1 := (by (repeat (first | exact Below.refl _ _ | assumption | (refine Below.alloc ?_ (by first | omega | (simp; omega) | (simp; done)) _) | (refine Below.setCell ?_ (by first | omega | (simp; omega) | (simp; done)) _) | (refine Below.drew ?_) | (refine belowN ?_ _) | (refine Below.trans ?_ (Below.mono ‹Below _ _ _› (by first | omega | (simp; omega) | (simp; done)))))))))
    refine gen_w (fun W => Blk W (w.heap.size + 1 + 1) #[.int .i64 0, .int .i64 0] 51 ∧ Below w.heap.size w W) ⟨(Blk.set2r g2 _ _), by (repeat (first | exact Below.refl _ _ | assumption | (refine Below.alloc ?_ (by first | omega | (simp; omega) | (simp; done)) _) | (refine Below.setCell ?_ (by first | omega | (simp; omega) | (simp; done)) _) | (refine Below.drew ?_) | (refine belowN ?_ _) | (refine Below.trans ?_ (Below.mono ‹Below _ _ _› (by first | omega | (simp; omega) | (simp; done))))))⟩ ?_
    rintro W ⟨gW, hW⟩
    have q0 := gW.cell 0; have q1 := gW.cell 1
    simp at q0 q1
    exact bodyPost_ret (v := .tuple #[.agg #[.int .i64 0, .int .i64 0], .int .i64 2]) (by simp [results, Try.results47, go_sem, q0, q1]) rfl ⟨by rw [HT.out], hW⟩
end Go.Proofs.Ytmfbiohdmhbkoaa

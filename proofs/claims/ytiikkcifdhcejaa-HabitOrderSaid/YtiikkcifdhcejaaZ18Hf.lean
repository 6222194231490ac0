/- odds: Both. -/
import Derived.Test.YtiikkcifdhcejaaGy
import Derived.Test.YtiikkcifdhcejaaZ06Pg
import Derived.Test.YtiikkcifdhcejaaZ05Pm
namespace Go.Proofs.Ytiikkcifdhcejaa
open Go.RowKit

theorem Blk.far2 {W : World} {b c t : Nat} {cs : Array Value} {p q : Value} (h : Blk W b cs t) (hne : b ≠ c) : Blk ((W.setCell ⟨c, 0, none⟩ p).setCell ⟨c, 1, none⟩ q) b cs t :=
  (h.far ⟨c, 0, none⟩ hne _).far ⟨c, 1, none⟩ hne _
theorem b_aa {W : World} {X Y : Array Value} {t : TypeId} : Blk ((W.alloc (.cells X t)).alloc (.cells Y t)) W.heap.size X t ∧ Blk ((W.alloc (.cells X t)).alloc (.cells Y t)) (W.heap.size + 1) Y t :=
  ⟨(Blk.new _ _ _).alloc _, Blk.at_ (by simp)⟩
theorem b_sa {W : World} {b t : Nat} {x y p q : Value} {Y : Array Value} (h : Blk W b #[x, y] t) : Blk (((W.setCell ⟨b, 0, none⟩ p).setCell ⟨b, 1, none⟩ q).alloc (.cells Y t)) b #[p, q] t ∧ Blk (((W.setCell ⟨b, 0, none⟩ p).setCell ⟨b, 1, none⟩ q).alloc (.cells Y t)) W.heap.size Y t :=
  ⟨(h.set2 _ _).alloc _, Blk.at_ (by simp)⟩
theorem b_ss {W : World} {b c t : Nat} {x y x' y' p q r s : Value} (h : Blk W b #[x, y] t) (h' : Blk W c #[x', y'] t) (hne : b ≠ c) :
    Blk ((((W.setCell ⟨b, 0, none⟩ p).setCell ⟨b, 1, none⟩ q).setCell ⟨c, 0, none⟩ r).setCell ⟨c, 1, none⟩ s) b #[p, q] t ∧ Blk ((((W.setCell ⟨b, 0, none⟩ p).setCell ⟨b, 1, none⟩ q).setCell ⟨c, 0, none⟩ r).setCell ⟨c, 1, none⟩ s) c #[r, s] t :=
  ⟨((h.set2 _ _).far ⟨c, 0, none⟩ hne _).far ⟨c, 1, none⟩ hne _, Blk.set2 ((h'.far ⟨b, 0, none⟩ (fun e => hne e.symm) _).far ⟨b, 1, none⟩ (fun e => hne e.symm) _) _ _⟩
set_option maxRecDepth 100000 in
set_option maxHeartbeats 8000000 in
theorem both_main (n d p q xn xd yn yd : Int) (ok : Bool) (res : Int × Int × Int) (w : World)
    (HI : Hid (∀ (W : World) (k : Nat), k = W.heap.size → Calls Try.prog 63 #[.slice (some ⟨k, 0, none⟩) 2 2] (W.alloc (.cells #[.int .i64 n, .int .i64 d, .int .i64 p, .int .i64 q] 27)) fun e w' => e = .returned (.bool true) ∧ Below W.heap.size W w'))
    (HR1 : Hid (∀ w : World, Calls Try.prog 86 #[.int .i64 n, .int .i64 q] w (RetC1 xn xd w)))
    (HR2 : Hid (∀ w : World, Calls Try.prog 86 #[.int .i64 p, .int .i64 d] w (RetC1 yn yd w)))
    (HS : Hid (∀ w : World, Calls Try.prog 70 #[.int .i64 xd, .int .i64 yd] w fun e w' => e = .returned (.bool ok) ∧ w = w'))
    (HT : Hid (res = if ok then (xn * yn, xd * yd, 0) else (0, 0, 10)))
    (m0 : ok = true → 0 ≤ xn * yn ∧ xn * yn ≤ 1000000000000000 ∧ 0 ≤ xd * yd ∧ xd * yd ≤ 1000000000000000) :
    Calls Try.prog 61 #[.agg #[.int .i64 n, .int .i64 d], .agg #[.int .i64 p, .int .i64 q]] w (RetC res w) := by
  have HTT : Hid (ok = true → res = (xn * yn, xd * yd, 0)) := (fun h => by rw [HT.out, if_pos h] : ok = true → res = (xn * yn, xd * yd, 0))
  have HTF : Hid (ok = false → res = (0, 0, 10)) := (fun h => by rw [HT.out, if_neg (by rw [h]; decide)] : ok = false → res = (0, 0, 10))
  clear HT
  go_enter Try.func61, Try.ntmps61
  go_upto_region 3 with (go_at_call 63; refine (HI.out _ _ (by first | omega | (simp; omega) | (simp; done))).mono ?_; rintro _ w1 ⟨rfl, hb1⟩; have g0 : Blk w1 w.heap.size #[.int .i64 n, .int .i64 d] 27 := (((Blk.at_ rfl).alloc _).alloc _).below hb1 (by first | omega | (simp; omega) | (simp; done)); have g1 : Blk w1 (w.heap.size + 1) #[.int .i64 p, .int .i64 q] 27 := ((Blk.at_ (by simp)).alloc _).below hb1 (by first | omega | (simp; omega) | (simp; done)); have g2 : Blk w1 (w.heap.size + 1 + 1) #[.int .i64 0, .int .i64 0] 27 := (Blk.at_ (by simp)).below hb1 (by first | omega | (simp; omega) | (simp; done)); have hw1 : Below w.heap.size w w1 := (by (repeat (first | exact Below.refl _ _ | assumption | (refine Below.alloc ?_ (by first | omega | (simp; omega) | (simp; done)) _) | (refine Below.setCell ?_ (by first | omega | (simp; omega) | (simp; done)) _) | (refine Below.drew ?_) | (refine belowN ?_ _) | (refine Below.trans ?_ (Below.mono ‹Below _ _ _› (by first | omega | (simp; omega) | (simp; done))))))))
  have hz := g2.lt
  have c0 := g0.cell 0; have c1 := g0.cell 1; have c2 := g1.cell 0; have c3 := g1.cell 1
  simp at c0 c1 c2 c3
  clear hb1
  have g0b := g0; have g1b := g1; have g2b := g2
  go_cut [6, 7] (fun s6 s7 wx => ∃ u v : Nat, s6 = .pointer (some ⟨u, 0, none⟩) ∧ s7 = .pointer (some ⟨v, 0, none⟩) ∧ Blk wx u #[.int .i64 xn, .int .i64 xd] 27 ∧ Blk wx v #[.int .i64 yn, .int .i64 yd] 27 ∧ Below w1.heap.size w1 wx ∧ w1.heap.size ≤ u ∧ w1.heap.size ≤ v)
  case first =>
    as_aux_lemma =>
      have nz1 : (w1.heap.size ≠ w.heap.size ∧ w1.heap.size ≠ w.heap.size + 1) ∧ w1.heap.size + 1 ≠ w.heap.size ∧ w1.heap.size + 1 ≠ w.heap.size + 1 := ⟨⟨by omega, by omega⟩, by omega, by omega⟩
      go_region_held (fun W' => W'.cell? ⟨w.heap.size, 0, none⟩ = some (.int .i64 n) ∧ W'.cell? ⟨w.heap.size, 1, none⟩ = some (.int .i64 d) ∧ W'.cell? ⟨w.heap.size + 1, 0, none⟩ = some (.int .i64 p) ∧ W'.cell? ⟨w.heap.size + 1, 1, none⟩ = some (.int .i64 q)) (first | exact ⟨c0, c1, c2, c3⟩ | go_keep)
        (first | (go_at_call 86; have _ := hx2; (with_reducible refine (HR2.out _).mono ?_); rintro _ w3 ⟨rfl, hb3⟩; have hx3 : Below w1.heap.size w1 w3 := bl2 hx2 (Below.trans (by (repeat (first | exact Below.refl _ _ | assumption | (refine Below.alloc ?_ (by first | omega | (simp; omega) | (simp; done)) _) | (refine Below.setCell ?_ (by first | omega | (simp; omega) | (simp; done)) _) | (refine Below.drew ?_) | (refine belowN ?_ _) | (refine Below.trans ?_ (Below.mono ‹Below _ _ _› (by first | omega | (simp; omega) | (simp; done))))))) (hb3.mono (by first | omega | (simp; omega) | (simp; done)))); have g0 := g0b.below hx3 g0b.lt; have g1 := g1b.below hx3 g1b.lt; have g2 := g2b.below hx3 g2b.lt; have hz := g2.lt; have c0 := g0.cell 0; have c1 := g0.cell 1; have c2 := g1.cell 0; have c3 := g1.cell 1; have f0 := g2.free 0; have f1 := g2.free 1; simp at c0 c1 c2 c3; have nz3 : (w3.heap.size ≠ w.heap.size ∧ w3.heap.size ≠ w.heap.size + 1) ∧ w3.heap.size + 1 ≠ w.heap.size ∧ w3.heap.size + 1 ≠ w.heap.size + 1 := ⟨⟨by omega, by omega⟩, by omega, by omega⟩; (try ((first | refine lay (Blk.below za hb3 ?_) ?_ | refine lay (Blk.below (Blk.alloc za _) hb3 ?_) ?_); (focus (first | omega | (simp; omega) | (simp; done))); intro za; have zal := za.lt; have za0 := za.cell 0; have za1 := za.cell 1; have za2 := za.free 0; have za3 := za.free 1; simp at za0 za1)); (try ((first | refine lay (Blk.below zb hb3 ?_) ?_ | refine lay (Blk.below (Blk.alloc zb _) hb3 ?_) ?_); (focus (first | omega | (simp; omega) | (simp; done))); intro zb; have zbl := zb.lt; have zb0 := zb.cell 0; have zb1 := zb.cell 1; have zb2 := zb.free 0; have zb3 := zb.free 1; simp at zb0 zb1)); (try (refine lay (P := Blk w3 (w2.heap.size) #[.int .i64 0, .int .i64 0] 27) ?_ ?_; (focus (refine Blk.below ?_ hb3 ?_; (focus (first | exact Blk.new _ _ _ | exact Blk.drew (Blk.new _ _ _) | exact (Blk.new _ _ _).alloc _ | exact (Blk.drew (Blk.new _ _ _)).alloc _ | exact Blk.drew ((Blk.new _ _ _).alloc _) | exact Blk.drew (Blk.at_ (by simp)) | exact Blk.at_ (by simp))); (focus (first | omega | (simp; omega) | (simp; done))))); intro zc; have zcl := zc.lt; have zc0 := zc.cell 0; have zc1 := zc.cell 1; have zc2 := zc.free 0; have zc3 := zc.free 1; simp at zc0 zc1)); (try (refine lay (P := Blk w3 (w2.heap.size + 1) #[.int .i64 0, .int .i64 0] 27) ?_ ?_; (focus (refine Blk.below ?_ hb3 ?_; (focus (first | exact Blk.new _ _ _ | exact Blk.drew (Blk.new _ _ _) | exact (Blk.new _ _ _).alloc _ | exact (Blk.drew (Blk.new _ _ _)).alloc _ | exact Blk.drew ((Blk.new _ _ _).alloc _) | exact Blk.drew (Blk.at_ (by simp)) | exact Blk.at_ (by simp))); (focus (first | omega | (simp; omega) | (simp; done))))); intro zd; have zdl := zd.lt; have zd0 := zd.cell 0; have zd1 := zd.cell 1; have zd2 := zd.free 0; have zd3 := zd.free 1; simp at zd0 zd1))) |
          (go_at_call 86; (with_reducible refine (HR1.out _).mono ?_); rintro _ w2 ⟨rfl, hb2⟩; have hx2 : Below w1.heap.size w1 w2 := Below.trans (by (repeat (first | exact Below.refl _ _ | assumption | (refine Below.alloc ?_ (by first | omega | (simp; omega) | (simp; done)) _) | (refine Below.setCell ?_ (by first | omega | (simp; omega) | (simp; done)) _) | (refine Below.drew ?_) | (refine belowN ?_ _) | (refine Below.trans ?_ (Below.mono ‹Below _ _ _› (by first | omega | (simp; omega) | (simp; done))))))) (hb2.mono (by first | omega | (simp; omega) | (simp; done))); have g0 := g0b.below hx2 g0b.lt; have g1 := g1b.below hx2 g1b.lt; have g2 := g2b.below hx2 g2b.lt; have hz := g2.lt; have c0 := g0.cell 0; have c1 := g0.cell 1; have c2 := g1.cell 0; have c3 := g1.cell 1; have f0 := g2.free 0; have f1 := g2.free 1; simp at c0 c1 c2 c3; have nz2 : (w2.heap.size ≠ w.heap.size ∧ w2.heap.size ≠ w.heap.size + 1) ∧ w2.heap.size + 1 ≠ w.heap.size ∧ w2.heap.size + 1 ≠ w.heap.size + 1 := ⟨⟨by omega, by omega⟩, by omega, by omega⟩; (try (refine lay (P := Blk w2 (w1.heap.size) #[.int .i64 0, .int .i64 0] 27) ?_ ?_; (focus (refine Blk.below ?_ hb2 ?_; (focus (first | exact Blk.new _ _ _ | exact Blk.drew (Blk.new _ _ _) | exact (Blk.new _ _ _).alloc _ | exact (Blk.drew (Blk.new _ _ _)).alloc _ | exact Blk.drew ((Blk.new _ _ _).alloc _) | exact Blk.drew (Blk.at_ (by simp)) | exact Blk.at_ (by simp))); (focus (first | omega | (simp; omega) | (simp; done))))); intro za; have zal := za.lt; have za0 := za.cell 0; have za1 := za.cell 1; have za2 := za.free 0; have za3 := za.free 1; simp at za0 za1)); (try (refine lay (P := Blk w2 (w1.heap.size + 1) #[.int .i64 0, .int .i64 0] 27) ?_ ?_; (focus (refine Blk.below ?_ hb2 ?_; (focus (first | exact Blk.new _ _ _ | exact Blk.drew (Blk.new _ _ _) | exact (Blk.new _ _ _).alloc _ | exact (Blk.drew (Blk.new _ _ _)).alloc _ | exact Blk.drew ((Blk.new _ _ _).alloc _) | exact Blk.drew (Blk.at_ (by simp)) | exact Blk.at_ (by simp))); (focus (first | omega | (simp; omega) | (simp; done))))); intro zb; have zbl := zb.lt; have zb0 := zb.cell 0; have zb1 := zb.cell 1; have zb2 := zb.free 0; have zb3 := zb.free 1; simp at zb0 zb1))))
      all_goals (
        go_wp2_with fail
        go_meet
        have hs2 := hx2.size
        have hs3 := hx3.size
        refine ⟨_, _, rfl, rfl, ?_, ?_, ?_, ?_, ?_⟩
        · (first | (with_reducible exact Blk.new _ _ _) | (with_reducible exact Blk.at_ (by simp)) | (with_reducible exact (Blk.new _ _ _).alloc _) | (with_reducible exact Blk.set2 za _ _) | (with_reducible exact Blk.set2 zb _ _) | (with_reducible exact Blk.set2 zc _ _) | (with_reducible exact Blk.set2 zd _ _) | (with_reducible refine Blk.alloc ?_ _; (first | (with_reducible exact Blk.set2 za _ _) | (with_reducible exact Blk.set2 zb _ _) | (with_reducible exact Blk.set2 zc _ _) | (with_reducible exact Blk.set2 zd _ _))) | (with_reducible refine Blk.set2 (Blk.far2 za ?_) _ _; first | omega | (simp; omega)) | (with_reducible refine Blk.set2 (Blk.far2 zb ?_) _ _; first | omega | (simp; omega)) | (with_reducible refine Blk.set2 (Blk.far2 zc ?_) _ _; first | omega | (simp; omega)) | (with_reducible refine Blk.set2 (Blk.far2 zd ?_) _ _; first | omega | (simp; omega)) | (with_reducible refine Blk.far2 ?_ (by first | omega | (simp; omega)); (first | (with_reducible exact Blk.set2 za _ _) | (with_reducible exact Blk.set2 zb _ _) | (with_reducible exact Blk.set2 zc _ _) | (with_reducible exact Blk.set2 zd _ _))))
        · (first | (with_reducible exact Blk.new _ _ _) | (with_reducible exact Blk.at_ (by simp)) | (with_reducible exact (Blk.new _ _ _).alloc _) | (with_reducible exact Blk.set2 za _ _) | (with_reducible exact Blk.set2 zb _ _) | (with_reducible exact Blk.set2 zc _ _) | (with_reducible exact Blk.set2 zd _ _) | (with_reducible refine Blk.alloc ?_ _; (first | (with_reducible exact Blk.set2 za _ _) | (with_reducible exact Blk.set2 zb _ _) | (with_reducible exact Blk.set2 zc _ _) | (with_reducible exact Blk.set2 zd _ _))) | (with_reducible refine Blk.set2 (Blk.far2 za ?_) _ _; first | omega | (simp; omega)) | (with_reducible refine Blk.set2 (Blk.far2 zb ?_) _ _; first | omega | (simp; omega)) | (with_reducible refine Blk.set2 (Blk.far2 zc ?_) _ _; first | omega | (simp; omega)) | (with_reducible refine Blk.set2 (Blk.far2 zd ?_) _ _; first | omega | (simp; omega)) | (with_reducible refine Blk.far2 ?_ (by first | omega | (simp; omega)); (first | (with_reducible exact Blk.set2 za _ _) | (with_reducible exact Blk.set2 zb _ _) | (with_reducible exact Blk.set2 zc _ _) | (with_reducible exact Blk.set2 zd _ _))))
        · (repeat (first | (with_reducible exact hx3) | (with_reducible refine Below.setCell (p := ⟨_, _, none⟩) ?_ (by first | omega | (simp; omega) | (simp; done)) _) | (with_reducible refine Below.alloc ?_ (by first | omega | (simp; omega) | (simp; done)) _)))
        · first | omega | (simp; omega)
        · first | omega | (simp; omega))
  case rest =>
    obtain ⟨u, v, rfl, rfl, gu, gv, hcx, hwu, hwv⟩ := hcut
    rename World => w6
    have g2 := g2b.below hcx g2b.lt
    have hw6 := bl2 hw1 hcx
    have g2c := g2
    have hz := g2.lt; have lu := gu.lt; have lv := gv.lt
    have c4 := g2.cell 0; have c5 := g2.cell 1; have f0 := g2.free 0; have f1 := g2.free 1
    have u0 := gu.cell 0; have u1 := gu.cell 1; have v0 := gv.cell 0; have v1 := gv.cell 1
    simp at c4 c5 u0 u1 v0 v1
    have nzu : u ≠ w.heap.size + 1 + 1 := by have := g2b.lt; omega
    have nzv : v ≠ w.heap.size + 1 + 1 := by have := g2b.lt; omega
    have nzu2 : w.heap.size + 1 + 1 ≠ u := fun e => nzu e.symm
    have nzv2 : w.heap.size + 1 + 1 ≠ v := fun e => nzv e.symm
    clear g0 g1 g0b g1b c0 c1 c2 c3 hcx
    cases ok with
    | true =>
      have HT := Lib.hid (HTT.out rfl)
      obtain ⟨m1, m2, m3, m4⟩ := m0 rfl
      clear m0
      go_wp2_with (go_at_call 70; refine (HS.out _).mono ?_; rintro _ _ ⟨rfl, rfl⟩)
      refine gen_w (fun W => Blk W (w.heap.size + 1 + 1) #[.int .i64 (xn * yn), .int .i64 (xd * yd)] 27 ∧ Below w.heap.size w W) ⟨(g2.set2 _ _), by (repeat (first | exact Below.refl _ _ | assumption | (refine Below.alloc ?_ (by first | omega | (simp; omega) | (simp; done)) _) | (refine Below.setCell ?_ (by first | omega | (simp; omega) | (simp; done)) _) | (refine Below.drew ?_) | (refine belowN ?_ _) | (refine Below.trans ?_ (Below.mono ‹Below _ _ _› (by first | omega | (simp; omega) | (simp; done))))))⟩ ?_
      rintro W ⟨gW, hW⟩
      have q0 := gW.cell 0; have q1 := gW.cell 1
      simp at q0 q1
      exact bodyPost_ret (v := .tuple #[.agg #[.int .i64 (xn * yn), .int .i64 (xd * yd)], .int .i64 0]) (by simp [results, Try.results61, go_sem, q0, q1]) rfl ⟨by rw [HT.out], hW⟩
    | false =>
      have HT := Lib.hid (HTF.out rfl)
      clear m0
      go_wp2_with (go_at_call 70; refine (HS.out _).mono ?_; rintro _ _ ⟨rfl, rfl⟩)
      refine gen_w (fun W => Blk W (w.heap.size + 1 + 1) #[.int .i64 0, .int .i64 0] 27 ∧ Below w.heap.size w W) ⟨(g2.set2 _ _), by (repeat (first | exact Below.refl _ _ | assumption | (refine Below.alloc ?_ (by first | omega | (simp; omega) | (simp; done)) _) | (refine Below.setCell ?_ (by first | omega | (simp; omega) | (simp; done)) _) | (refine Below.drew ?_) | (refine belowN ?_ _) | (refine Below.trans ?_ (Below.mono ‹Below _ _ _› (by first | omega | (simp; omega) | (simp; done))))))⟩ ?_
      rintro W ⟨gW, hW⟩
      have q0 := gW.cell 0; have q1 := gW.cell 1
      simp at q0 q1
      exact bodyPost_ret (v := .tuple #[.agg #[.int .i64 0, .int .i64 0], .int .i64 10]) (by simp [results, Try.results61, go_sem, q0, q1]) rfl ⟨by rw [HT.out], hW⟩
end Go.Proofs.Ytiikkcifdhcejaa
namespace Go.Proofs.Ytiikkcifdhcejaa
open Go.RowKit

set_option maxRecDepth 100000 in
set_option maxHeartbeats 4000000 in
theorem both_any (a b : Ch) (w : World) : Calls Try.prog 61 #[.agg #[.int .i64 a.n, .int .i64 a.d], .agg #[.int .i64 b.n, .int .i64 b.d]] w (RetC (bothR a b) w) := by
  have HI := Lib.hid (isCh2of_any a b)
  by_cases ok : okP a b = true
  · obtain ⟨O1, O2⟩ := okP_iff.1 ok
    obtain ⟨x0, xy, xd1, yd1, xd2, yd2, xn0, yn0, xn1, yn1⟩ := both_bd O1 O2
    have o1 := O1.d1; have o2 := O1.d2; have o3 := O1.n0; have o4 := O1.n1
    have o5 := O2.d1; have o6 := O2.d2; have o7 := O2.n0; have o8 := O2.n1
    rw [ok] at HI
    have hd0 : 0 ≤ ratD a.n b.d * ratD b.n a.d := Int.mul_nonneg (by omega) (by omega)
    refine both_main a.n a.d b.n b.d (ratN a.n b.d) (ratD a.n b.d) (ratN b.n a.d) (ratD b.n a.d) (smallB (ratD a.n b.d) (ratD b.n a.d)) (bothR a b) w HI
      (Lib.hid fun w => ratio_any a.n b.d w o3 (by omega) (by omega) (by omega)) (Lib.hid fun w => ratio_any b.n a.d w o7 (by omega) (by omega) (by omega))
      (Lib.hid fun w => small_any _ _ w (by omega) (by omega) (by omega) (by omega)) ?_ ?_
    · refine Lib.hid ?_
      unfold bothR
      rw [if_pos ok]
      by_cases hs : ratD a.n b.d * ratD b.n a.d ≤ 1000000000000000
      · rw [if_pos hs, smallB_true hs]; rfl
      · rw [if_neg hs, smallB_false hs]; rfl
    · intro hs
      have h : ratD a.n b.d * ratD b.n a.d ≤ 1000000000000000 := by
        apply Classical.byContradiction
        intro hn
        rw [smallB_false hn] at hs; cases hs
      exact ⟨x0, by omega, hd0, h⟩
  · have ok' : okP a b = false := by simpa using ok
    have HT : Hid (bothR a b = (0, 0, 2)) := (by unfold bothR; rw [if_neg ok] : bothR a b = _)
    rw [ok'] at HI
    clear ok ok'
    go_enter Try.func61, Try.ntmps61
    go_wp2_with (go_at_call 63; refine (HI.out _ _ (by first | omega | (simp; omega) | (simp; done))).mono ?_; rintro _ w1 ⟨rfl, hb1⟩; have g1 : Blk w1 (w.heap.size + 1 + 1) #[.int .i64 0, .int .i64 0] 27 := (Blk.at_ (by simp)).below hb1 (by first | omega | (simp; omega) | (simp; done)); have hz := g1.lt; have f0 := g1.free 0; have f1 := g1.free 1; have e0 := g1.cell 0; have e1 := g1.cell 1; simp at e0 e1)
    refine gen_w (fun W => Blk W (w.heap.size + 1 + 1) #[.int .i64 0, .int .i64 0] 27 ∧ Below w.heap.size w W) ⟨(g1.set2 _ _), by (repeat (first | exact Below.refl _ _ | assumption | (refine Below.alloc ?_ (by first | omega | (simp; omega) | (simp; done)) _) | (refine Below.setCell ?_ (by first | omega | (simp; omega) | (simp; done)) _) | (refine Below.drew ?_) | (refine belowN ?_ _) | (refine Below.trans ?_ (Below.mono ‹Below _ _ _› (by first | omega | (simp; omega) | (simp; done))))))⟩ ?_
    rintro W ⟨gW, hW⟩
    have q0 := gW.cell 0; have q1 := gW.cell 1
    simp at q0 q1
    exact bodyPost_ret (v := .tuple #[.agg #[.int .i64 0, .int .i64 0], .int .i64 2]) (by simp [results, Try.results61, go_sem, q0, q1]) rfl ⟨by rw [HT.out], hW⟩
end Go.Proofs.Ytiikkcifdhcejaa
namespace Go.Proofs.Ytiikkcifdhcejaa

/-- the weights and sums of a cast by two models -/
structure Two where
  wa : Int
  sa : Int
  wb : Int
  sb : Int
/-- how a belief changes -/
def belGo : List Two → Ch → Int × Int × Int
  | [], x => (x.n, x.d, 0)
  | t :: l, x =>
    if x.n * t.wa * t.sb + (x.d - x.n) * t.wb * t.sa = 0 then (0, 0, 7)
    else if 1000000000 < ratD (x.n * t.wa * t.sb) (x.n * t.wa * t.sb + (x.d - x.n) * t.wb * t.sa) then (0, 0, 10)
    else belGo l ⟨ratN (x.n * t.wa * t.sb) (x.n * t.wa * t.sb + (x.d - x.n) * t.wb * t.sa), ratD (x.n * t.wa * t.sb) (x.n * t.wa * t.sb + (x.d - x.n) * t.wb * t.sa)⟩
def prA : List Two → Int
  | [] => 1
  | t :: l => t.wa * t.sb * prA l
def prB : List Two → Int
  | [] => 1
  | t :: l => t.wb * t.sa * prB l
structure TwoOk (t : Two) : Prop where
  wa : 0 ≤ t.wa ∧ t.wa ≤ 32000
  sa : 1 ≤ t.sa ∧ t.sa ≤ 32000
  wb : 0 ≤ t.wb ∧ t.wb ≤ 32000
  sb : 1 ≤ t.sb ∧ t.sb ≤ 32000
theorem mul_bd {a b c A B C : Int} (h1 : 0 ≤ a ∧ a ≤ A) (h2 : 0 ≤ b ∧ b ≤ B) (h3 : 0 ≤ c ∧ c ≤ C) : 0 ≤ a * b * c ∧ a * b * c ≤ A * B * C := by
  have e1 := Int.mul_nonneg h1.1 h2.1
  have e2 := Int.mul_le_mul h1.2 h2.2 h2.1 (by omega)
  exact ⟨Int.mul_nonneg e1 h3.1, Int.mul_le_mul e2 h3.2 h3.1 (by omega)⟩
/-- a belief, and the numbers of a step -/
theorem bel_bd {x : Ch} (hx : OkC x) (hd : x.d ≤ 1000000000) {t : Two} (ht : TwoOk t) : 0 ≤ x.n * t.wa * t.sb ∧ 0 ≤ (x.d - x.n) * t.wb * t.sa ∧ x.n * t.wa * t.sb + (x.d - x.n) * t.wb * t.sa ≤ 1024000000000000000 := by
  have n0 := hx.n0; have n1 := hx.n1
  have e1 := mul_bd (A := x.n) (B := 32000) (C := 32000) ⟨n0, Int.le_refl _⟩ ht.wa ⟨by have := ht.sb.1; omega, ht.sb.2⟩
  have e2 := mul_bd (A := x.d - x.n) (B := 32000) (C := 32000) ⟨by omega, Int.le_refl _⟩ ht.wb ⟨by have := ht.sa.1; omega, ht.sa.2⟩
  omega
theorem rat_ok' {n d : Int} (hn : 0 ≤ n) (hd : 0 < d) (hnd : n ≤ d) (h2 : ratD n d ≤ 1000000000) : OkC ⟨ratN n d, ratD n d⟩ := by
  have g : 0 < gI n d := gI_pos (.inr hd)
  have c : Co (ratN n d) (ratD n d) := co_div hn (by omega) g
  have gl := gI_le_right n hd
  exact ok_mk c (Int.le_ediv_of_mul_le g (by omega)) (by omega) (Int.ediv_le_ediv g hnd)
theorem bel_step {x : Ch} (hx : OkC x) (hd : x.d ≤ 1000000000) {t : Two} (ht : TwoOk t) (h0 : x.n * t.wa * t.sb + (x.d - x.n) * t.wb * t.sa ≠ 0) (h1 : ¬ 1000000000 < ratD (x.n * t.wa * t.sb) (x.n * t.wa * t.sb + (x.d - x.n) * t.wb * t.sa)) :
    OkC ⟨ratN (x.n * t.wa * t.sb) (x.n * t.wa * t.sb + (x.d - x.n) * t.wb * t.sa), ratD (x.n * t.wa * t.sb) (x.n * t.wa * t.sb + (x.d - x.n) * t.wb * t.sa)⟩ := by
  obtain ⟨e1, e2, e3⟩ := bel_bd hx hd ht
  exact rat_ok' e1 (by omega) (by omega) (by omega)
/-- a belief that is told has the value that the products give -/
theorem belGo_val : ∀ (l : List Two) (x : Ch) {n d : Int}, (∀ t ∈ l, TwoOk t) → OkC x → x.d ≤ 1000000000 → belGo l x = (n, d, 0) → OkC ⟨n, d⟩ ∧ d ≤ 1000000000 ∧ 0 < x.n * prA l + (x.d - x.n) * prB l ∧ n * (x.n * prA l + (x.d - x.n) * prB l) = d * (x.n * prA l)
  | [], x, n, d, _, hx, hxd, h => by
    simp only [belGo, Prod.mk.injEq] at h
    obtain ⟨rfl, rfl, _⟩ := h
    have := hx.d1
    simp only [prA, prB, Int.mul_one]
    exact ⟨hx, hxd, by omega, by rw [show x.n + (x.d - x.n) = x.d by omega, Int.mul_comm]⟩
  | t :: l, x, n, d, hl, hx, hxd, h => by
    have ht := hl t (by simp)
    simp only [belGo] at h
    by_cases h0 : x.n * t.wa * t.sb + (x.d - x.n) * t.wb * t.sa = 0
    · rw [if_pos h0] at h; simp at h
    · rw [if_neg h0] at h
      by_cases h1 : 1000000000 < ratD (x.n * t.wa * t.sb) (x.n * t.wa * t.sb + (x.d - x.n) * t.wb * t.sa)
      · rw [if_pos h1] at h; simp at h
      · rw [if_neg h1] at h
        have o := bel_step hx hxd ht h0 h1
        obtain ⟨e1, e2, e3⟩ := bel_bd hx hxd ht
        have hcr := rat_cross e1 (show 0 < x.n * t.wa * t.sb + (x.d - x.n) * t.wb * t.sa by omega)
        obtain ⟨r1, r2, r3, r4⟩ := belGo_val l _ (fun y hy => hl y (by simp [hy])) o (by simp only; omega) h
        refine ⟨r1, r2, ?_⟩
        simp only at r3 r4
        have ey : x.n * (t.wa * t.sb * prA l) = x.n * t.wa * t.sb * prA l := by ac_rfl
        have en : (x.d - x.n) * (t.wb * t.sa * prB l) = (x.d - x.n) * t.wb * t.sa * prB l := by ac_rfl
        simp only [prA, prB, ey, en]
        generalize x.n * t.wa * t.sb = Y at *
        generalize (x.d - x.n) * t.wb * t.sa = Z at *
        generalize hN : ratN Y (Y + Z) = N at *
        generalize hD : ratD Y (Y + Z) = D at *
        have hD1 : 1 ≤ D := o.d1
        have hS : 0 < Y + Z := by omega
        -- N (Y + Z) = Y D; (D - N) (Y + Z) = D Z
        have k2 : (D - N) * (Y + Z) = D * Z := by rw [Int.sub_mul, hcr, Int.mul_add, Int.mul_comm Y D]; omega
        have k3 : (N * prA l + (D - N) * prB l) * (Y + Z) = D * (Y * prA l + Z * prB l) := by
          calc (N * prA l + (D - N) * prB l) * (Y + Z) = N * (Y + Z) * prA l + (D - N) * (Y + Z) * prB l := by rw [Int.add_mul]; ac_rfl
            _ = Y * D * prA l + D * Z * prB l := by rw [hcr, k2]
            _ = D * (Y * prA l + Z * prB l) := by rw [Int.mul_add]; ac_rfl
        have k4 : 0 < D * (Y * prA l + Z * prB l) := by rw [← k3]; exact Int.mul_pos r3 hS
        refine ⟨Int.pos_of_mul_pos_right k4 (by omega) , ?_⟩
        apply Int.eq_of_mul_eq_mul_right (a := D) (by omega)
        calc n * (Y * prA l + Z * prB l) * D = n * (D * (Y * prA l + Z * prB l)) := by ac_rfl
          _ = n * (N * prA l + (D - N) * prB l) * (Y + Z) := by rw [← k3]; ac_rfl
          _ = d * (N * prA l) * (Y + Z) := by rw [r4]
          _ = d * (N * (Y + Z) * prA l) := by ac_rfl
          _ = d * (Y * D * prA l) := by rw [hcr]
          _ = d * (Y * prA l) * D := by ac_rfl
/-- told in two parts -/
theorem belGo_append : ∀ (l m : List Two) (x : Ch), belGo (l ++ m) x = if (belGo l x).2.2 = 0 then belGo m ⟨(belGo l x).1, (belGo l x).2.1⟩ else belGo l x
  | [], m, x => by simp [belGo]
  | t :: l, m, x => by
    have e : ∀ k, belGo (t :: k) x = if x.n * t.wa * t.sb + (x.d - x.n) * t.wb * t.sa = 0 then (0, 0, 7)
        else if 1000000000 < ratD (x.n * t.wa * t.sb) (x.n * t.wa * t.sb + (x.d - x.n) * t.wb * t.sa) then (0, 0, 10)
        else belGo k ⟨ratN (x.n * t.wa * t.sb) (x.n * t.wa * t.sb + (x.d - x.n) * t.wb * t.sa), ratD (x.n * t.wa * t.sb) (x.n * t.wa * t.sb + (x.d - x.n) * t.wb * t.sa)⟩ := fun _ => rfl
    rw [List.cons_append]
    by_cases h0 : x.n * t.wa * t.sb + (x.d - x.n) * t.wb * t.sa = 0
    · have e1 : ∀ k, belGo (t :: k) x = (0, 0, 7) := fun k => by rw [e, if_pos h0]
      rw [e1, e1]; simp
    · by_cases h1 : 1000000000 < ratD (x.n * t.wa * t.sb) (x.n * t.wa * t.sb + (x.d - x.n) * t.wb * t.sa)
      · have e1 : ∀ k, belGo (t :: k) x = (0, 0, 10) := fun k => by rw [e, if_neg h0, if_pos h1]
        rw [e1, e1]; simp
      · have e1 := fun k => (e k).trans ((if_neg h0).trans (if_neg h1))
        rw [e1, e1]
        exact belGo_append l m _
/-- a belief rises just if the first product is the greater one -/
theorem bel_cmp {x : Ch} {n d A B : Int} (hx : OkC x) (hd : 1 ≤ d) (h3 : 0 < x.n * A + (x.d - x.n) * B) (h4 : n * (x.n * A + (x.d - x.n) * B) = d * (x.n * A)) :
    ((0 < x.n ∧ x.n < x.d) → cmpI (n * x.d) (x.n * d) = cmpI A B) ∧ (¬ (0 < x.n ∧ x.n < x.d) → cmpI (n * x.d) (x.n * d) = 0) := by
  have n0 := hx.n0; have n1 := hx.n1; have d1 := hx.d1
  obtain ⟨S, hS⟩ : ∃ S, S = x.n * A + (x.d - x.n) * B := ⟨_, rfl⟩
  rw [← hS] at h3 h4
  -- S (n xd - xn d) = d xn (xd - xn) (A - B)
  have key : (n * x.d - x.n * d) * S = d * x.n * (x.d - x.n) * (A - B) := by
    have e1 : n * x.d * S = d * (x.n * A) * x.d := by rw [← h4]; ac_rfl
    have e2 : x.n * d * S = d * x.n * (x.n * A) + d * x.n * ((x.d - x.n) * B) := by rw [hS, Int.mul_add, Int.mul_comm x.n d]
    have e3 : d * x.n * (x.d - x.n) * (A - B) = d * x.n * x.d * A - d * x.n * x.n * A - d * x.n * ((x.d - x.n) * B) := by
      rw [Int.mul_sub (d * x.n * (x.d - x.n)) A B, Int.mul_assoc (d * x.n) (x.d - x.n) B, Int.mul_sub (d * x.n) x.d x.n, Int.sub_mul (d * x.n * x.d) (d * x.n * x.n) A]
    rw [Int.sub_mul, e1, e2, e3]
    have e4 : d * (x.n * A) * x.d = d * x.n * x.d * A := by ac_rfl
    have e5 : d * x.n * (x.n * A) = d * x.n * x.n * A := by ac_rfl
    rw [e4, e5]; omega
  constructor
  · rintro ⟨p1, p2⟩
    have hp : 0 < d * x.n * (x.d - x.n) := Int.mul_pos (Int.mul_pos (by omega) p1) (by omega)
    unfold cmpI
    by_cases c1 : A < B
    · rw [if_pos c1, if_pos]
      have h9 : (n * x.d - x.n * d) * S < 0 := by rw [key]; exact Int.mul_neg_of_pos_of_neg hp (by omega)
      have h8 : ¬ 0 ≤ n * x.d - x.n * d := fun hh => by have := Int.mul_nonneg hh (show 0 ≤ S by omega); omega
      omega
    · rw [if_neg c1]
      by_cases c2 : B < A
      · have h9 : 0 < (n * x.d - x.n * d) * S := by rw [key]; exact Int.mul_pos hp (by omega)
        have h8 : ¬ n * x.d - x.n * d ≤ 0 := fun hh => by
          have := Int.mul_nonneg (show 0 ≤ -(n * x.d - x.n * d) by omega) (show 0 ≤ S by omega)
          rw [Int.neg_mul] at this; omega
        rw [if_pos c2, if_neg (by omega), if_pos (by omega)]
      · have h9 : (n * x.d - x.n * d) * S = 0 := by rw [key, show A - B = 0 by omega, Int.mul_zero]
        have : n * x.d - x.n * d = 0 := by
          rcases Int.mul_eq_zero.1 h9 with h | h
          · exact h
          · omega
        rw [if_neg c2, if_neg (by omega), if_neg (by omega)]
  · intro hno
    have hz : x.n = 0 ∨ x.d - x.n = 0 := by omega
    have h9 : (n * x.d - x.n * d) * S = 0 := by
      rw [key]
      rcases hz with h | h
      · rw [h]; simp
      · rw [h]; simp
    have : n * x.d - x.n * d = 0 := by
      rcases Int.mul_eq_zero.1 h9 with h | h
      · exact h
      · omega
    unfold cmpI
    rw [if_neg (by omega), if_neg (by omega)]
end Go.Proofs.Ytiikkcifdhcejaa
namespace Go.Proofs.Ytiikkcifdhcejaa

/-- the shares of casts from a state of the hand on -/
def runS (m : HMd) : HSt → List Int → List (Int × Int)
  | _, [] => []
  | s, x :: l => (s.cast m x).2 :: runS m (s.cast m x).1 l
/-- the hand's shares are the document's -/
theorem runS_eq {m : HMd} {l : List Int} (ha : m.kind = 3 → 1 ≤ m.after) (hl : ∀ x ∈ l, 0 ≤ x ∧ x.toNat < m.row0.length) : ∀ (r : List Int) (i : Nat) (s : HSt), l.drop i = r → i ≤ l.length → HOk m l i s → runS m s r = (List.range' i r.length).map (wtI m l)
  | [], i, s, _, _, _ => by simp [runS]
  | x :: r, i, s, hd, hi, hs => by
    have hil : i < l.length := by
      rcases Nat.lt_or_ge i l.length with h | h
      · exact h
      · rw [List.drop_eq_nil_of_le h] at hd; cases hd
    rw [List.drop_eq_getElem_cons hil] at hd
    simp only [List.cons.injEq] at hd
    obtain ⟨rfl, hd⟩ := hd
    have hg : l.getD i 0 = l[i] := by simp [hil]
    have hx := hl _ (List.getElem_mem hil)
    rw [← hg] at hx
    obtain ⟨h1, h2⟩ := hs.cast hil ha hx.1 hx.2
    rw [hg] at h1 h2
    simp only [runS, List.length_cons, List.range'_succ, List.map_cons]
    rw [h1, runS_eq ha hl r (i + 1) _ hd (by omega) h2]
theorem runS_all {m : HMd} {l : List Int} (ha : m.kind = 3 → 1 ≤ m.after) (hl : ∀ x ∈ l, 0 ≤ x ∧ x.toNat < m.row0.length) : runS m ⟨0, [], 0⟩ l = shL m l := by
  have := runS_eq ha hl l 0 ⟨0, [], 0⟩ (by simp) (by omega) (HOk.start m l)
  rw [this]
  unfold shL
  rw [List.range_eq_range']
/-- a product of shares -/
def prR : List (Int × Int) → Rat
  | [] => 1
  | (w, s) :: t => (w : Rat) / (s : Rat) * prR t
/-- a sum over the first n numbers -/
def sumN (f : Nat → Rat) : Nat → Rat
  | 0 => 0
  | n + 1 => sumN f n + f n
theorem sumN_congr {f g : Nat → Rat} : ∀ {n : Nat}, (∀ i, i < n → f i = g i) → sumN f n = sumN g n
  | 0, _ => rfl
  | n + 1, h => by
    have ih := sumN_congr (n := n) fun i hi => h i (by omega)
    simp only [sumN]
    rw [ih, h n (by omega)]
theorem sumN_add (f g : Nat → Rat) : ∀ n, sumN (fun i => f i + g i) n = sumN f n + sumN g n
  | 0 => by simp only [sumN]; grind
  | n + 1 => by
    have ih := sumN_add f g n
    simp only [sumN]
    rw [ih]; grind
theorem sumN_mul (c : Rat) (f : Nat → Rat) : ∀ n, sumN (fun i => c * f i) n = c * sumN f n
  | 0 => by simp only [sumN]; grind
  | n + 1 => by
    have ih := sumN_mul c f n
    simp only [sumN]
    rw [ih]; grind
theorem sumN_append (f : Nat → Rat) (n : Nat) : ∀ k, sumN f (n + k) = sumN f n + sumN (fun i => f (n + i)) k
  | 0 => by simp only [sumN, Nat.add_zero]; grind
  | k + 1 => by
    have ih := sumN_append f n k
    show sumN f (n + k) + f (n + k) = sumN f n + (sumN (fun i => f (n + i)) k + f (n + k))
    rw [ih]; grind
theorem sumN_swap (f : Nat → Nat → Rat) (n : Nat) : ∀ k, sumN (fun i => sumN (fun j => f i j) n) k = sumN (fun j => sumN (fun i => f i j) k) n
  | 0 => by
    simp only [sumN]
    have : ∀ n, sumN (fun _ => (0 : Rat)) n = 0 := fun n => by
      induction n with
      | zero => rfl
      | succ n ih => simp only [sumN, ih]; grind
    exact (this n).symm
  | k + 1 => by
    have ih := sumN_swap f n k
    simp only [sumN]
    rw [ih, sumN_add]
/-- the numbers below o n by their last digit -/
theorem sumN_digit (f : Nat → Rat) (o : Nat) : ∀ n, sumN f (o * n) = sumN (fun y => sumN (fun d => f (d + o * y)) o) n
  | 0 => by simp [sumN]
  | n + 1 => by
    rw [Nat.mul_succ, sumN_append, sumN_digit f o n]
    simp only [sumN]
    congr 1
    exact sumN_congr fun i _ => by rw [Nat.add_comm]
theorem sumN_nn {f : Nat → Rat} : ∀ {n : Nat}, (∀ i, i < n → 0 ≤ f i) → 0 ≤ sumN f n
  | 0, _ => by simp [sumN]
  | n + 1, h => by
    have h1 := sumN_nn (n := n) fun i hi => h i (by omega)
    have h2 := h n (by omega)
    simp only [sumN]; grind
theorem sumN_mono {f : Nat → Rat} {n k : Nat} (h : ∀ i, 0 ≤ f i) (hk : n ≤ k) : sumN f n ≤ sumN f k := by
  obtain ⟨j, rfl⟩ := Nat.exists_eq_add_of_le hk
  rw [sumN_append]
  have := sumN_nn (f := fun i => f (n + i)) (n := j) fun i _ => h _
  grind
/-- the digits of a number, the lowest one first -/
def digL (o : Nat) : Nat → Nat → List Int
  | 0, _ => []
  | n + 1, x => ((x % o : Nat) : Int) :: digL o n (x / o)
/-- a row's weights add up to its sum -/
theorem sumN_row (r : List Int) : sumN (fun d => ((r.getD d 0 : Int) : Rat)) r.length = ((totI r : Int) : Rat) := by
  induction r with
  | nil => simp [sumN, totI]
  | cons w r ih =>
    have h := sumN_append (fun d => (((w :: r).getD d 0 : Int) : Rat)) 1 r.length
    rw [List.length_cons, Nat.add_comm r.length 1, h]
    simp only [sumN, totI]
    have e : sumN (fun i => (((w :: r).getD (1 + i) 0 : Int) : Rat)) r.length = sumN (fun d => ((r.getD d 0 : Int) : Rat)) r.length := sumN_congr fun i _ => by rw [Nat.add_comm]; simp
    rw [e, ih]
    simp [Rat.intCast_add]
    grind
/-- states that can come -/
structure StOk (m : HMd) (s : HSt) : Prop where
  next : m.kind = 2 → s.next < m.rows.length
  pos : m.kind = 3 → HPos m s
/-- what a hand in such a state casts adds up -/
theorem StOk.cast {m : HMd} (h : ModOk m) {s : HSt} (hs : StOk m s) : ∃ S : Int, 1 ≤ S ∧ (∀ d, d < m.outs → (s.cast m (d : Int)).2.2 = S ∧ 0 ≤ (s.cast m (d : Int)).2.1 ∧ ((s.cast m (d : Int)).2.1 ≠ 0 → StOk m (s.cast m (d : Int)).1)) ∧ sumN (fun d => (((s.cast m (d : Int)).2.1 : Int) : Rat)) m.outs = ((S : Int) : Rat) := by
  obtain ⟨r1, r2, r3⟩ := h.row _ h.row0_mem
  by_cases h2 : m.kind = 2
  · have hn := hs.next h2
    have hl : m.rows.length = m.outs + 1 := by
      rcases h.kind with ⟨k, _⟩ | ⟨_, k, _⟩ | ⟨k, _⟩
      · omega
      · exact k
      · omega
    obtain ⟨row, hrow⟩ : ∃ row, row = m.rows.getD s.next [] := ⟨_, rfl⟩
    have hmem : row ∈ m.rows := by
      have e : m.rows.getD s.next [] = m.rows[s.next] := by simp [hn]
      rw [hrow, e]; exact List.getElem_mem hn
    obtain ⟨q1, q2, q3⟩ := h.row _ hmem
    refine ⟨totI row, by omega, fun d hd => ?_, ?_⟩
    · unfold HSt.cast
      simp only [if_pos h2, ← hrow, Int.toNat_natCast]
      have e : row.getD d 0 = row[d]'(by omega) := by simp [show d < row.length by omega]
      refine ⟨trivial, by rw [e]; exact (q2 _ (List.getElem_mem _)).1, fun _ => ⟨fun _ => ?_, fun e3 => by omega⟩⟩
      simp only; omega
    · rw [← sumN_row row, q1]
      exact sumN_congr fun d _ => by unfold HSt.cast; simp only [if_pos h2, ← hrow, Int.toNat_natCast]
  · by_cases h3 : m.kind = 3
    · have hp := hs.pos h3
      obtain ⟨L, hL⟩ : ∃ L, L = if s.aside = 0 then m.row0 else s.left := ⟨_, rfl⟩
      have hlen : L.length = m.outs := by
        rw [hL]; split
        · exact r1
        · rename_i h0; exact hp.len h0
      have htot : totI L = totI m.row0 - s.aside := by
        rw [hL]; split
        · rename_i h0; omega
        · rename_i h0; exact hp.tot h0
      have hnn : ∀ w ∈ L, 0 ≤ w := by
        rw [hL]; split
        · exact fun w hw => (r2 w hw).1
        · rename_i h0; exact hp.nn h0
      have hka : 1 ≤ m.after ∧ m.after ≤ totI m.row0 := by
        rcases h.kind with ⟨k, _⟩ | ⟨k, _⟩ | ⟨_, _, k⟩
        · omega
        · omega
        · exact k
      have hlt := hp.lt
      have hw : ∀ d, d < m.outs → (s.cast m (d : Int)).2.1 = L.getD d 0 := fun d hd => by
        have e : L.getD d 0 = L[d]'(by omega) := by simp [show d < L.length by omega]
        have h0 : 0 ≤ L.getD d 0 := by rw [e]; exact hnn _ (List.getElem_mem _)
        unfold HSt.cast
        simp only [if_neg h2, if_pos h3, ← hL, Int.toNat_natCast]
        omega
      refine ⟨totI m.row0 - s.aside, by omega, fun d hd => ?_, ?_⟩
      · have hc := (hp.cast h h3 (x := (d : Int)) ⟨by omega, by omega⟩).2
        refine ⟨by unfold HSt.cast; simp only [if_neg h2, if_pos h3], ?_, fun hne => ⟨fun e => absurd e h2, fun _ => hc hne⟩⟩
        rw [hw d hd]
        have e : L.getD d 0 = L[d]'(by omega) := by simp [show d < L.length by omega]
        rw [e]; exact hnn _ (List.getElem_mem _)
      · rw [← htot, ← sumN_row L, hlen]
        exact sumN_congr fun d hd => by rw [hw d hd]
    · refine ⟨totI m.row0, by omega, fun d hd => ?_, ?_⟩
      · unfold HSt.cast
        simp only [if_neg h2, if_neg h3, Int.toNat_natCast]
        have e : m.row0.getD d 0 = m.row0[d]'(by omega) := by simp [show d < m.row0.length by omega]
        exact ⟨trivial, by rw [e]; exact (r2 _ (List.getElem_mem _)).1, fun _ => ⟨fun e => absurd e h2, fun e => absurd e h3⟩⟩
      · rw [← sumN_row m.row0, r1]
        exact sumN_congr fun d _ => by unfold HSt.cast; simp only [if_neg h2, if_neg h3, Int.toNat_natCast]
/-- all registers of n casts, from a state that can come -/
theorem all_one {m : HMd} (h : ModOk m) : ∀ (n : Nat) (s : HSt), StOk m s → sumN (fun x => prR (runS m s (digL m.outs n x))) (m.outs ^ n) = 1
  | 0, s, _ => by simp [sumN, digL, runS, prR]; grind
  | n + 1, s, hs => by
    have ho := h.n1
    obtain ⟨S, hS, hc, hsum⟩ := hs.cast h
    rw [Nat.pow_succ, Nat.mul_comm, sumN_digit, sumN_swap]
    have e : ∀ d, d < m.outs → sumN (fun y => prR (runS m s (digL m.outs (n + 1) (d + m.outs * y)))) (m.outs ^ n) = (((s.cast m (d : Int)).2.1 : Int) : Rat) / (S : Rat) := fun d hd => by
      obtain ⟨c1, c2, c3⟩ := hc d hd
      have e1 : ∀ y, prR (runS m s (digL m.outs (n + 1) (d + m.outs * y))) = (((s.cast m (d : Int)).2.1 : Int) : Rat) / (S : Rat) * prR (runS m (s.cast m (d : Int)).1 (digL m.outs n y)) := fun y => by
        have m1 : (d + m.outs * y) % m.outs = d := by rw [Nat.add_mul_mod_self_left, Nat.mod_eq_of_lt hd]
        have m2 : (d + m.outs * y) / m.outs = y := by rw [Nat.add_mul_div_left _ _ (by omega), Nat.div_eq_of_lt hd, Nat.zero_add]
        simp only [digL, m1, m2, runS]
        rw [show (s.cast m (d : Int)).2 = ((s.cast m (d : Int)).2.1, S) by rw [← c1]]
        rfl
      rw [sumN_congr fun y _ => e1 y, sumN_mul]
      by_cases h0 : (s.cast m (d : Int)).2.1 = 0
      · rw [h0]; simp; grind
      · rw [all_one h n _ (c3 h0)]; grind
    rw [sumN_congr e]
    have hS0 : (S : Rat) ≠ 0 := by
      intro h9
      have := Rat.intCast_eq_zero_iff.1 h9
      omega
    have e2 : sumN (fun d => (((s.cast m (d : Int)).2.1 : Int) : Rat) / (S : Rat)) m.outs = (1 / (S : Rat)) * sumN (fun d => (((s.cast m (d : Int)).2.1 : Int) : Rat)) m.outs := by
      rw [← sumN_mul]
      exact sumN_congr fun d _ => by grind
    rw [e2, hsum]
    grind
end Go.Proofs.Ytiikkcifdhcejaa

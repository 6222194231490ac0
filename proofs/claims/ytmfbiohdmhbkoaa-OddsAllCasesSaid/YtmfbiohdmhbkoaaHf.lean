/- odds: Both. -/
import Derived.Test.YtmfbiohdmhbkoaaGy
import Derived.Test.YtmfbiohdmhbkoaaGf
namespace Go.Proofs.Ytmfbiohdmhbkoaa
open Go.RowKit

theorem Blk.far2 {W : World} {b c t : Nat} {cs : Array Value} {p q : Value} (h : Blk W b cs t) (hne : b ≠ c) : Blk ((W.setCell ⟨c, 0, none⟩ p).setCell ⟨c, 1, none⟩ q) b cs t :=
  (h.far ⟨c, 0, none⟩ hne _).far ⟨c, 1, none⟩ hne _
theorem b_aa {W : World} {X Y : Array Value} {t : TypeId} : Blk ((W.alloc (.cells X t)).alloc (.cells Y t)) W.heap.size X t ∧ Blk ((W.alloc (.cells X t)).alloc (.cells Y t)) (W.heap.size + 1) Y t :=
  ⟨(Blk.new _ _ _).alloc _, Blk.at_ (by simp)⟩
theorem b_sa {W : World} {b t : Nat} {x y p q : Value} {Y : Array Value} (h : Blk W b #[x, y] t) : Blk (((W.setCell ⟨b, 0, none⟩ p).setCell ⟨b, 1, none⟩ q).alloc (.cells Y t)) b #[p, q] t ∧ Blk (((W.setCell ⟨b, 0, none⟩ p).setCell ⟨b, 1, none⟩ q).alloc (.cells Y t)) W.heap.size Y t :=
  ⟨(h.set2 _ _).alloc _, Blk.at_ (by simp)⟩
theorem b_ss {W : World} {b c t : Nat} {x y x' y' p q r s : Value} (h : Blk W b #[x, y] t) (h' : Blk W c #[x', y'] t) (hne : b ≠ c) :
    Blk ((((W.setCell ⟨b, 0, none⟩ p).setCell ⟨b, 1, none⟩ q).setCell ⟨c, 0, none⟩ r).setCell ⟨c, 1, none⟩ s) b #[p, q] t ∧ Blk ((((W.setCell ⟨b, 0, none⟩ p).setCell ⟨b, 1, none⟩ q).setCell ⟨c, 0, none⟩ r).setCell ⟨c, 1, none⟩ s) c #[r, s] t :=
  ⟨((h.set2 _ _).far ⟨c, 0, none⟩ hne _).far ⟨c, 1, none⟩ hne _, Blk.set2 ((h'.far ⟨b, 0, none⟩ (fun e => hne e.symm) _).far ⟨b, 1, none⟩ (fun e => hne e.symm) _) _ _⟩
set_option maxRecDepth 100000 in
set_option maxHeartbeats 8000000 in
theorem both_main (n d p q xn xd yn yd : Int) (ok : Bool) (res : Int × Int × Int) (w : World)
    (HI : Hid (∀ (W : World) (k : Nat), k = W.heap.size → Calls Try.prog 78 #[.slice (some ⟨k, 0, none⟩) 2 2] (W.alloc (.cells #[.int .i64 n, .int .i64 d, .int .i64 p, .int .i64 q] 51)) fun e w' => e = .returned (.bool true) ∧ Below W.heap.size W w'))
    (HR1 : Hid (∀ w : World, Calls Try.prog 75 #[.int .i64 n, .int .i64 q] w (RetC1 xn xd w)))
    (HR2 : Hid (∀ w : World, Calls Try.prog 75 #[.int .i64 p, .int .i64 d] w (RetC1 yn yd w)))
    (HS : Hid (∀ w : World, Calls Try.prog 56 #[.int .i64 xd, .int .i64 yd] w fun e w' => e = .returned (.bool ok) ∧ w = w'))
    (HT : Hid (res = if ok then (xn * yn, xd * yd, 0) else (0, 0, 10)))
    (m0 : ok = true → 0 ≤ xn * yn ∧ xn * yn ≤ 1000000000000000 ∧ 0 ≤ xd * yd ∧ xd * yd ≤ 1000000000000000) :
    Calls Try.prog 42 #[.agg #[.int .i64 n, .int .i64 d], .agg #[.int .i64 p, .int .i64 q]] w (RetC res w) := by
  have HTT : Hid (ok = true → res = (xn * yn, xd * yd, 0)) := (fun h => by rw [HT.out, if_pos h] : ok = true → res = (xn * yn, xd * yd, 0))
  have HTF : Hid (ok = false → res = (0, 0, 10)) := (fun h => by rw [HT.out, if_neg (by rw [h]; decide)] : ok = false → res = (0, 0, 10))
  clear HT
  go_enter Try.func42, Try.ntmps42
  go_upto_region 3 with (go_at_call 78; refine (HI.out _ _ (by first | omega | (simp; omega) | (simp; done))).mono ?_; rintro _ w1 ⟨rfl, hb1⟩; have g0 : Blk w1 w.heap.size #[.int .i64 n, .int .i64 d] 51 := (((Blk.at_ rfl).alloc _).alloc _).below hb1 (by first | omega | (simp; omega) | (simp; done)); have g1 : Blk w1 (w.heap.size + 1) #[.int .i64 p, .int .i64 q] 51 := ((Blk.at_ (by simp)).alloc _).below hb1 (by first | omega | (simp; omega) | (simp; done)); have g2 : Blk w1 (w.heap.size + 1 + 1) #[.int .i64 0, .int .i64 0] 51 := (Blk.at_ (by simp)).below hb1 (by first | omega | (simp; omega) | (simp; done)); have hw1 : Below w.heap.size w w1 := (by (repeat (first | exact Below.refl _ _ | assumption | (refine Below.alloc ?_ (by first | omega | (simp; omega) | (simp; done)) _) | (refine Below.setCell ?_ (by first | omega | (simp; omega) | (simp; done)) _) | (refine Below.drew ?_) | (refine belowN ?_ _) | (refine Below.trans ?_ (Below.mono ‹Below _ _ _› (by first | omega | (simp; omega) | (simp; done))))))))
  have hz := g2.lt
  have c0 := g0.cell 0; have c1 := g0.cell 1; have c2 := g1.cell 0; have c3 := g1.cell 1
  simp at c0 c1 c2 c3
  clear hb1
  have g0b := g0; have g1b := g1; have g2b := g2
  go_cut [6, 7] (fun s6 s7 wx => ∃ u v : Nat, s6 = .pointer (some ⟨u, 0, none⟩) ∧ s7 = .pointer (some ⟨v, 0, none⟩) ∧ Blk wx u #[.int .i64 xn, .int .i64 xd] 51 ∧ Blk wx v #[.int .i64 yn, .int .i64 yd] 51 ∧ Below w1.heap.size w1 wx ∧ w1.heap.size ≤ u ∧ w1.heap.size ≤ v)
  case first =>
    as_aux_lemma =>
      have nz1 : (w1.heap.size ≠ w.heap.size ∧ w1.heap.size ≠ w.heap.size + 1) ∧ w1.heap.size + 1 ≠ w.heap.size ∧ w1.heap.size + 1 ≠ w.heap.size + 1 := ⟨⟨by omega, by omega⟩, by omega, by omega⟩
      go_region_held (fun W' => W'.cell? ⟨w.heap.size, 0, none⟩ = some (.int .i64 n) ∧ W'.cell? ⟨w.heap.size, 1, none⟩ = some (.int .i64 d) ∧ W'.cell? ⟨w.heap.size + 1, 0, none⟩ = some (.int .i64 p) ∧ W'.cell? ⟨w.heap.size + 1, 1, none⟩ = some (.int .i64 q)) (first | exact ⟨c0, c1, c2, c3⟩ | go_keep)
        (first | (go_at_call 75; have _ := hx2; (with_reducible refine (HR2.out _).mono ?_); rintro _ w3 ⟨rfl, hb3⟩; have hx3 : Below w1.heap.size w1 w3 := bl2 hx2 (Below.trans (by (repeat (first | exact Below.refl _ _ | assumption | (refine Below.alloc ?_ (by first | omega | (simp; omega) | (simp; done)) _) | (refine Below.setCell ?_ (by first | omega | (simp; omega) | (simp; done)) _) | (refine Below.drew ?_) | (refine belowN ?_ _) | (refine Below.trans ?_ (Below.mono ‹Below _ _ _› (by first | omega | (simp; omega) | (simp; done))))))) (hb3.mono (by first | omega | (simp; omega) | (simp; done)))); have g0 := g0b.below hx3 g0b.lt; have g1 := g1b.below hx3 g1b.lt; have g2 := g2b.below hx3 g2b.lt; have hz := g2.lt; have c0 := g0.cell 0; have c1 := g0.cell 1; have c2 := g1.cell 0; have c3 := g1.cell 1; have f0 := g2.free 0; have f1 := g2.free 1; simp at c0 c1 c2 c3; have nz3 : (w3.heap.size ≠ w.heap.size ∧ w3.heap.size ≠ w.heap.size + 1) ∧ w3.heap.size + 1 ≠ w.heap.size ∧ w3.heap.size + 1 ≠ w.heap.size + 1 := ⟨⟨by omega, by omega⟩, by omega, by omega⟩; (try ((first | refine lay (Blk.below za hb3 ?_) ?_ | refine lay (Blk.below (Blk.alloc za _) hb3 ?_) ?_); (focus (first | omega | (simp; omega) | (simp; done))); intro za; have zal := za.lt; have za0 := za.cell 0; have za1 := za.cell 1; have za2 := za.free 0; have za3 := za.free 1; simp at za0 za1)); (try ((first | refine lay (Blk.below zb hb3 ?_) ?_ | refine lay (Blk.below (Blk.alloc zb _) hb3 ?_) ?_); (focus (first | omega | (simp; omega) | (simp; done))); intro zb; have zbl := zb.lt; have zb0 := zb.cell 0; have zb1 := zb.cell 1; have zb2 := zb.free 0; have zb3 := zb.free 1; simp at zb0 zb1)); (try (refine lay (P := Blk w3 (w2.heap.size) #[.int .i64 0, .int .i64 0] 51) ?_ ?_; (focus (refine Blk.below ?_ hb3 ?_; (focus (first | exact Blk.new _ _ _ | exact Blk.drew (Blk.new _ _ _) | exact (Blk.new _ _ _).alloc _ | exact (Blk.drew (Blk.new _ _ _)).alloc _ | exact Blk.drew ((Blk.new _ _ _).alloc _) | exact Blk.drew (Blk.at_ (by simp)) | exact Blk.at_ (by simp))); (focus (first | omega | (simp; omega) | (simp; done))))); intro zc; have zcl := zc.lt; have zc0 := zc.cell 0; have zc1 := zc.cell 1; have zc2 := zc.free 0; have zc3 := zc.free 1; simp at zc0 zc1)); (try (refine lay (P := Blk w3 (w2.heap.size + 1) #[.int .i64 0, .int .i64 0] 51) ?_ ?_; (focus (refine Blk.below ?_ hb3 ?_; (focus (first | exact Blk.new _ _ _ | exact Blk.drew (Blk.new _ _ _) | exact (Blk.new _ _ _).alloc _ | exact (Blk.drew (Blk.new _ _ _)).alloc _ | exact Blk.drew ((Blk.new _ _ _).alloc _) | exact Blk.drew (Blk.at_ (by simp)) | exact Blk.at_ (by simp))); (focus (first | omega | (simp; omega) | (simp; done))))); intro zd; have zdl := zd.lt; have zd0 := zd.cell 0; have zd1 := zd.cell 1; have zd2 := zd.free 0; have zd3 := zd.free 1; simp at zd0 zd1))) |
          (go_at_call 75; (with_reducible refine (HR1.out _).mono ?_); rintro _ w2 ⟨rfl, hb2⟩; have hx2 : Below w1.heap.size w1 w2 := Below.trans (by (repeat (first | exact Below.refl _ _ | assumption | (refine Below.alloc ?_ (by first | omega | (simp; omega) | (simp; done)) _) | (refine Below.setCell ?_ (by first | omega | (simp; omega) | (simp; done)) _) | (refine Below.drew ?_) | (refine belowN ?_ _) | (refine Below.trans ?_ (Below.mono ‹Below _ _ _› (by first | omega | (simp; omega) | (simp; done))))))) (hb2.mono (by first | omega | (simp; omega) | (simp; done))); have g0 := g0b.below hx2 g0b.lt; have g1 := g1b.below hx2 g1b.lt; have g2 := g2b.below hx2 g2b.lt; have hz := g2.lt; have c0 := g0.cell 0; have c1 := g0.cell 1; have c2 := g1.cell 0; have c3 := g1.cell 1; have f0 := g2.free 0; have f1 := g2.free 1; simp at c0 c1 c2 c3; have nz2 : (w2.heap.size ≠ w.heap.size ∧ w2.heap.size ≠ w.heap.size + 1) ∧ w2.heap.size + 1 ≠ w.heap.size ∧ w2.heap.size + 1 ≠ w.heap.size + 1 := ⟨⟨by omega, by omega⟩, by omega, by omega⟩; (try (refine lay (P := Blk w2 (w1.heap.size) #[.int .i64 0, .int .i64 0] 51) ?_ ?_; (focus (refine Blk.below ?_ hb2 ?_; (focus (first | exact Blk.new _ _ _ | exact Blk.drew (Blk.new _ _ _) | exact (Blk.new _ _ _).alloc _ | exact (Blk.drew (Blk.new _ _ _)).alloc _ | exact Blk.drew ((Blk.new _ _ _).alloc _) | exact Blk.drew (Blk.at_ (by simp)) | exact Blk.at_ (by simp))); (focus (first | omega | (simp; omega) | (simp; done))))); intro za; have zal := za.lt; have za0 := za.cell 0; have za1 := za.cell 1; have za2 := za.free 0; have za3 := za.free 1; simp at za0 za1)); (try (refine lay (P := Blk w2 (w1.heap.size + 1) #[.int .i64 0, .int .i64 0] 51) ?_ ?_; (focus (refine Blk.below ?_ hb2 ?_; (focus (first | exact Blk.new _ _ _ | exact Blk.drew (Blk.new _ _ _) | exact (Blk.new _ _ _).alloc _ | exact (Blk.drew (Blk.new _ _ _)).alloc _ | exact Blk.drew ((Blk.new _ _ _).alloc _) | exact Blk.drew (Blk.at_ (by simp)) | exact Blk.at_ (by simp))); (focus (first | omega | (simp; omega) | (simp; done))))); intro zb; have zbl := zb.lt; have zb0 := zb.cell 0; have zb1 := zb.cell 1; have zb2 := zb.free 0; have zb3 := zb.free 1; simp at zb0 zb1))))
      all_goals (
        go_wp2_with fail
        go_meet
        have hs2 := hx2.size
        have hs3 := hx3.size
        refine ⟨_, _, rfl, rfl, ?_, ?_, ?_, ?_, ?_⟩
        · (first | (with_reducible exact Blk.new _ _ _) | (with_reducible exact Blk.at_ (by simp)) | (with_reducible exact (Blk.new _ _ _).alloc _) | (with_reducible exact Blk.set2 za _ _) | (with_reducible exact Blk.set2 zb _ _) | (with_reducible exact Blk.set2 zc _ _) | (with_reducible exact Blk.set2 zd _ _) | (with_reducible refine Blk.alloc ?_ _; (first | (with_reducible exact Blk.set2 za _ _) | (with_reducible exact Blk.set2 zb _ _) | (with_reducible exact Blk.set2 zc _ _) | (with_reducible exact Blk.set2 zd _ _))) | (with_reducible refine Blk.set2 (Blk.far2 za ?_) _ _; first | omega | (simp; omega)) | (with_reducible refine Blk.set2 (Blk.far2 zb ?_) _ _; first | omega | (simp; omega)) | (with_reducible refine Blk.set2 (Blk.far2 zc ?_) _ _; first | omega | (simp; omega)) | (with_reducible refine Blk.set2 (Blk.far2 zd ?_) _ _; first | omega | (simp; omega)) | (with_reducible refine Blk.far2 ?_ (by first | omega | (simp; omega)); (first | (with_reducible exact Blk.set2 za _ _) | (with_reducible exact Blk.set2 zb _ _) | (with_reducible exact Blk.set2 zc _ _) | (with_reducible exact Blk.set2 zd _ _))))
        · (first | (with_reducible exact Blk.new _ _ _) | (with_reducible exact Blk.at_ (by simp)) | (with_reducible exact (Blk.new _ _ _).alloc _) | (with_reducible exact Blk.set2 za _ _) | (with_reducible exact Blk.set2 zb _ _) | (with_reducible exact Blk.set2 zc _ _) | (with_reducible exact Blk.set2 zd _ _) | (with_reducible refine Blk.alloc ?_ _; (first | (with_reducible exact Blk.set2 za _ _) | (with_reducible exact Blk.set2 zb _ _) | (with_reducible exact Blk.set2 zc _ _) | (with_reducible exact Blk.set2 zd _ _))) | (with_reducible refine Blk.set2 (Blk.far2 za ?_) _ _; first | omega | (simp; omega)) | (with_reducible refine Blk.set2 (Blk.far2 zb ?_) _ _; first | omega | (simp; omega)) | (with_reducible refine Blk.set2 (Blk.far2 zc ?_) _ _; first | omega | (simp; omega)) | (with_reducible refine Blk.set2 (Blk.far2 zd ?_) _ _; first | omega | (simp; omega)) | (with_reducible refine Blk.far2 ?_ (by first | omega | (simp; omega)); (first | (with_reducible exact Blk.set2 za _ _) | (with_reducible exact Blk.set2 zb _ _) | (with_reducible exact Blk.set2 zc _ _) | (with_reducible exact Blk.set2 zd _ _))))
        · (repeat (first | (with_reducible exact hx3) | (with_reducible refine Below.setCell (p := ⟨_, _, none⟩) ?_ (by first | omega | (simp; omega) | (simp; done)) _) | (with_reducible refine Below.alloc ?_ (by first | omega | (simp; omega) | (simp; done)) _)))
        · first | omega | (simp; omega)
        · first | omega | (simp; omega))
  case rest =>
    obtain ⟨u, v, rfl, rfl, gu, gv, hcx, hwu, hwv⟩ := hcut
    rename World => w6
    have g2 := g2b.below hcx g2b.lt
    have hw6 := bl2 hw1 hcx
    have g2c := g2
    have hz := g2.lt; have lu := gu.lt; have lv := gv.lt
    have c4 := g2.cell 0; have c5 := g2.cell 1; have f0 := g2.free 0; have f1 := g2.free 1
    have u0 := gu.cell 0; have u1 := gu.cell 1; have v0 := gv.cell 0; have v1 := gv.cell 1
    simp at c4 c5 u0 u1 v0 v1
    have nzu : u ≠ w.heap.size + 1 + 1 := by have := g2b.lt; omega
    have nzv : v ≠ w.heap.size + 1 + 1 := by have := g2b.lt; omega
    have nzu2 : w.heap.size + 1 + 1 ≠ u := fun e => nzu e.symm
    have nzv2 : w.heap.size + 1 + 1 ≠ v := fun e => nzv e.symm
    clear g0 g1 g0b g1b c0 c1 c2 c3 hcx
    cases ok with
    | true =>
      have HT := Lib.hid (HTT.out rfl)
      obtain ⟨m1, m2, m3, m4⟩ := m0 rfl
      clear m0
      go_wp2_with (go_at_call 56; refine (HS.out _).mono ?_; rintro _ _ ⟨rfl, rfl⟩)
      refine gen_w (fun W => Blk W (w.heap.size + 1 + 1) #[.int .i64 (xn * yn), .int .i64 (xd * yd)] 51 ∧ Below w.heap.size w W) ⟨(g2.set2 _ _), by (repeat (first | exact Below.refl _ _ | assumption | (refine Below.alloc ?_ (by first | omega | (simp; omega) | (simp; done)) _) | (refine Below.setCell ?_ (by first | omega | (simp; omega) | (simp; done)) _) | (refine Below.drew ?_) | (refine belowN ?_ _) | (refine Below.trans ?_ (Below.mono ‹Below _ _ _› (by first | omega | (simp; omega) | (simp; done))))))⟩ ?_
      rintro W ⟨gW, hW⟩
      have q0 := gW.cell 0; have q1 := gW.cell 1
      simp at q0 q1
      exact bodyPost_ret (v := .tuple #[.agg #[.int .i64 (xn * yn), .int .i64 (xd * yd)], .int .i64 0]) (by simp [results, Try.results42, go_sem, q0, q1]) rfl ⟨by rw [HT.out], hW⟩
    | false =>
      have HT := Lib.hid (HTF.out rfl)
      clear m0
      go_wp2_with (go_at_call 56; refine (HS.out _).mono ?_; rintro _ _ ⟨rfl, rfl⟩)
      refine gen_w (fun W => Blk W (w.heap.size + 1 + 1) #[.int .i64 0, .int .i64 0] 51 ∧ Below w.heap.size w W) ⟨(g2.set2 _ _), by (repeat (first | exact Below.refl _ _ | assumption | (refine Below.alloc ?_ (by first | omega | (simp; omega) | (simp; done)) _) | (refine Below.setCell ?_ (by first | omega | (simp; omega) | (simp; done)) _) | (refine Below.drew ?_) | (refine belowN ?_ _) | (refine Below.trans ?_ (Below.mono ‹Below _ _ _› (by first | omega | (simp; omega) | (simp; done))))))⟩ ?_
      rintro W ⟨gW, hW⟩
      have q0 := gW.cell 0; have q1 := gW.cell 1
      simp at q0 q1
      exact bodyPost_ret (v := .tuple #[.agg #[.int .i64 0, .int .i64 0], .int .i64 10]) (by simp [results, Try.results42, go_sem, q0, q1]) rfl ⟨by rw [HT.out], hW⟩
end Go.Proofs.Ytmfbiohdmhbkoaa

/- almanac: isLunar, wheels. (isLunar's cases were printed by a program.) -/
import Derived.Test.YtfbnllmmoaialaaGreatZ00Mem
import Derived.Deep.RegionHeld
import Derived.Deep.DeepCutAuto
import Derived.RegionTactic
import Derived.ChangeAlike
import Derived.BigRegion
namespace Go.Proofs.YtfbnllmmoaialaaGreat
open Go.RowKit

/-- a rule for months -/
structure Lun where
  d : Int
  p : Int
  f : Int
  m : Int
  y : Int
  s : Int
  l : Int
def lunB (r : Lun) : Bool := inB r.p 1 100000 && inB r.d (27 * r.p) (31 * r.p) && inB r.f 0 (r.p - 1) && inB r.y 1 100000 && inB r.m (12 * r.y) (13 * r.y) && inB r.s 0 (r.y - 1) && inB r.l 1 12
set_option maxRecDepth 100000 in
set_option maxHeartbeats 4000000 in
theorem isLunar_any (d p f m y s l : Int) (w : World) : Calls Tryz.prog 41 #[.agg #[.int .i64 d, .int .i64 p, .int .i64 f, .int .i64 m, .int .i64 y, .int .i64 s, .int .i64 l]] w fun en w' => en = .returned (.bool (lunB ⟨d, p, f, m, y, s, l⟩)) ∧ Below w.heap.size w w' := by
  cases h1 : inB p 1 100000 with
  | false =>
    have H1 := Lib.hid (fun W => within_val h1 W)
    have HT : Hid (lunB ⟨d, p, f, m, y, s, l⟩ = false) := (by simp [lunB, h1] : lunB ⟨d, p, f, m, y, s, l⟩ = false)
    clear h1
    go_enter Tryz.func41, Tryz.ntmps41
    go_wp2_with (first | (go_at_call 35; (with_reducible refine (H1.out _).mono ?_); rintro _ _ ⟨rfl, rfl⟩) | (go_at_call 35; (with_reducible refine (H2.out _).mono ?_); rintro _ _ ⟨rfl, rfl⟩) | (go_at_call 35; (with_reducible refine (H3.out _).mono ?_); rintro _ _ ⟨rfl, rfl⟩) | (go_at_call 35; (with_reducible refine (H4.out _).mono ?_); rintro _ _ ⟨rfl, rfl⟩) | (go_at_call 35; (with_reducible refine (H5.out _).mono ?_); rintro _ _ ⟨rfl, rfl⟩) | (go_at_call 35; (with_reducible refine (H6.out _).mono ?_); rintro _ _ ⟨rfl, rfl⟩) | (go_at_call 35; (with_reducible refine (H7.out _).mono ?_); rintro _ _ ⟨rfl, rfl⟩))
    go_ret
    exact ⟨ret_bool HT.out.symm, by (repeat (first | exact Below.refl _ _ | assumption | (refine Below.alloc ?_ (by first | omega | (simp; omega) | (simp; done)) _) | (refine Below.setCell ?_ (by first | omega | (simp; omega) | (simp; done)) _) | (refine Below.drew ?_) | (refine belowN ?_ _) | (refine Below.trans ?_ (Below.mono ‹Below _ _ _› (by first | omega | (simp; omega) | (simp; done))))))⟩
  | true =>
    have H1 := Lib.hid (fun W => within_val h1 W)
    have b1 := inB_iff.1 h1
    cases h2 : inB d (27 * p) (31 * p) with
    | false =>
      have H2 := Lib.hid (fun W => within_val h2 W)
      have HT : Hid (lunB ⟨d, p, f, m, y, s, l⟩ = false) := (by simp [lunB, h1, h2] : lunB ⟨d, p, f, m, y, s, l⟩ = false)
      clear h1 h2
      go_enter Tryz.func41, Tryz.ntmps41
      go_wp2_with (first | (go_at_call 35; (with_reducible refine (H1.out _).mono ?_); rintro _ _ ⟨rfl, rfl⟩) | (go_at_call 35; (with_reducible refine (H2.out _).mono ?_); rintro _ _ ⟨rfl, rfl⟩) | (go_at_call 35; (with_reducible refine (H3.out _).mono ?_); rintro _ _ ⟨rfl, rfl⟩) | (go_at_call 35; (with_reducible refine (H4.out _).mono ?_); rintro _ _ ⟨rfl, rfl⟩) | (go_at_call 35; (with_reducible refine (H5.out _).mono ?_); rintro _ _ ⟨rfl, rfl⟩) | (go_at_call 35; (with_reducible refine (H6.out _).mono ?_); rintro _ _ ⟨rfl, rfl⟩) | (go_at_call 35; (with_reducible refine (H7.out _).mono ?_); rintro _ _ ⟨rfl, rfl⟩))
      go_ret
      exact ⟨ret_bool HT.out.symm, by (repeat (first | exact Below.refl _ _ | assumption | (refine Below.alloc ?_ (by first | omega | (simp; omega) | (simp; done)) _) | (refine Below.setCell ?_ (by first | omega | (simp; omega) | (simp; done)) _) | (refine Below.drew ?_) | (refine belowN ?_ _) | (refine Below.trans ?_ (Below.mono ‹Below _ _ _› (by first | omega | (simp; omega) | (simp; done))))))⟩
    | true =>
      have H2 := Lib.hid (fun W => within_val h2 W)
      cases h3 : inB f 0 (p - 1) with
      | false =>
        have H3 := Lib.hid (fun W => within_val h3 W)
        have HT : Hid (lunB ⟨d, p, f, m, y, s, l⟩ = false) := (by simp [lunB, h1, h2, h3] : lunB ⟨d, p, f, m, y, s, l⟩ = false)
        clear h1 h2 h3
        go_enter Tryz.func41, Tryz.ntmps41
        go_wp2_with (first | (go_at_call 35; (with_reducible refine (H1.out _).mono ?_); rintro _ _ ⟨rfl, rfl⟩) | (go_at_call 35; (with_reducible refine (H2.out _).mono ?_); rintro _ _ ⟨rfl, rfl⟩) | (go_at_call 35; (with_reducible refine (H3.out _).mono ?_); rintro _ _ ⟨rfl, rfl⟩) | (go_at_call 35; (with_reducible refine (H4.out _).mono ?_); rintro _ _ ⟨rfl, rfl⟩) | (go_at_call 35; (with_reducible refine (H5.out _).mono ?_); rintro _ _ ⟨rfl, rfl⟩) | (go_at_call 35; (with_reducible refine (H6.out _).mono ?_); rintro _ _ ⟨rfl, rfl⟩) | (go_at_call 35; (with_reducible refine (H7.out _).mono ?_); rintro _ _ ⟨rfl, rfl⟩))
        go_ret
        exact ⟨ret_bool HT.out.symm, by (repeat (first | exact Below.refl _ _ | assumption | (refine Below.alloc ?_ (by first | omega | (simp; omega) | (simp; done)) _) | (refine Below.setCell ?_ (by first | omega | (simp; omega) | (simp; done)) _) | (refine Below.drew ?_) | (refine belowN ?_ _) | (refine Below.trans ?_ (Below.mono ‹Below _ _ _› (by first | omega | (simp; omega) | (simp; done))))))⟩
      | true =>
        have H3 := Lib.hid (fun W => within_val h3 W)
        cases h4 : inB y 1 100000 with
        | false =>
          have H4 := Lib.hid (fun W => within_val h4 W)
          have HT : Hid (lunB ⟨d, p, f, m, y, s, l⟩ = false) := (by simp [lunB, h1, h2, h3, h4] : lunB ⟨d, p, f, m, y, s, l⟩ = false)
          clear h1 h2 h3 h4
          go_enter Tryz.func41, Tryz.ntmps41
          go_wp2_with (first | (go_at_call 35; (with_reducible refine (H1.out _).mono ?_); rintro _ _ ⟨rfl, rfl⟩) | (go_at_call 35; (with_reducible refine (H2.out _).mono ?_); rintro _ _ ⟨rfl, rfl⟩) | (go_at_call 35; (with_reducible refine (H3.out _).mono ?_); rintro _ _ ⟨rfl, rfl⟩) | (go_at_call 35; (with_reducible refine (H4.out _).mono ?_); rintro _ _ ⟨rfl, rfl⟩) | (go_at_call 35; (with_reducible refine (H5.out _).mono ?_); rintro _ _ ⟨rfl, rfl⟩) | (go_at_call 35; (with_reducible refine (H6.out _).mono ?_); rintro _ _ ⟨rfl, rfl⟩) | (go_at_call 35; (with_reducible refine (H7.out _).mono ?_); rintro _ _ ⟨rfl, rfl⟩))
          go_ret
          exact ⟨ret_bool HT.out.symm, by (repeat (first | exact Below.refl _ _ | assumption | (refine Below.alloc ?_ (by first | omega | (simp; omega) | (simp; done)) _) | (refine Below.setCell ?_ (by first | omega | (simp; omega) | (simp; done)) _) | (refine Below.drew ?_) | (refine belowN ?_ _) | (refine Below.trans ?_ (Below.mono ‹Below _ _ _› (by first | omega | (simp; omega) | (simp; done))))))⟩
        | true =>
          have H4 := Lib.hid (fun W => within_val h4 W)
          have b4 := inB_iff.1 h4
          cases h5 : inB m (12 * y) (13 * y) with
          | false =>
            have H5 := Lib.hid (fun W => within_val h5 W)
            have HT : Hid (lunB ⟨d, p, f, m, y, s, l⟩ = false) := (by simp [lunB, h1, h2, h3, h4, h5] : lunB ⟨d, p, f, m, y, s, l⟩ = false)
            clear h1 h2 h3 h4 h5
            go_enter Tryz.func41, Tryz.ntmps41
            go_wp2_with (first | (go_at_call 35; (with_reducible refine (H1.out _).mono ?_); rintro _ _ ⟨rfl, rfl⟩) | (go_at_call 35; (with_reducible refine (H2.out _).mono ?_); rintro _ _ ⟨rfl, rfl⟩) | (go_at_call 35; (with_reducible refine (H3.out _).mono ?_); rintro _ _ ⟨rfl, rfl⟩) | (go_at_call 35; (with_reducible refine (H4.out _).mono ?_); rintro _ _ ⟨rfl, rfl⟩) | (go_at_call 35; (with_reducible refine (H5.out _).mono ?_); rintro _ _ ⟨rfl, rfl⟩) | (go_at_call 35; (with_reducible refine (H6.out _).mono ?_); rintro _ _ ⟨rfl, rfl⟩) | (go_at_call 35; (with_reducible refine (H7.out _).mono ?_); rintro _ _ ⟨rfl, rfl⟩))
            go_ret
            exact ⟨ret_bool HT.out.symm, by (repeat (first | exact Below.refl _ _ | assumption | (refine Below.alloc ?_ (by first | omega | (simp; omega) | (simp; done)) _) | (refine Below.setCell ?_ (by first | omega | (simp; omega) | (simp; done)) _) | (refine Below.drew ?_) | (refine belowN ?_ _) | (refine Below.trans ?_ (Below.mono ‹Below _ _ _› (by first | omega | (simp; omega) | (simp; done))))))⟩
          | true =>
            have H5 := Lib.hid (fun W => within_val h5 W)
            cases h6 : inB s 0 (y - 1) with
            | false =>
              have H6 := Lib.hid (fun W => within_val h6 W)
              have HT : Hid (lunB ⟨d, p, f, m, y, s, l⟩ = false) := (by simp [lunB, h1, h2, h3, h4, h5, h6] : lunB ⟨d, p, f, m, y, s, l⟩ = false)
              clear h1 h2 h3 h4 h5 h6
              go_enter Tryz.func41, Tryz.ntmps41
              go_wp2_with (first | (go_at_call 35; (with_reducible refine (H1.out _).mono ?_); rintro _ _ ⟨rfl, rfl⟩) | (go_at_call 35; (with_reducible refine (H2.out _).mono ?_); rintro _ _ ⟨rfl, rfl⟩) | (go_at_call 35; (with_reducible refine (H3.out _).mono ?_); rintro _ _ ⟨rfl, rfl⟩) | (go_at_call 35; (with_reducible refine (H4.out _).mono ?_); rintro _ _ ⟨rfl, rfl⟩) | (go_at_call 35; (with_reducible refine (H5.out _).mono ?_); rintro _ _ ⟨rfl, rfl⟩) | (go_at_call 35; (with_reducible refine (H6.out _).mono ?_); rintro _ _ ⟨rfl, rfl⟩) | (go_at_call 35; (with_reducible refine (H7.out _).mono ?_); rintro _ _ ⟨rfl, rfl⟩))
              go_ret
              exact ⟨ret_bool HT.out.symm, by (repeat (first | exact Below.refl _ _ | assumption | (refine Below.alloc ?_ (by first | omega | (simp; omega) | (simp; done)) _) | (refine Below.setCell ?_ (by first | omega | (simp; omega) | (simp; done)) _) | (refine Below.drew ?_) | (refine belowN ?_ _) | (refine Below.trans ?_ (Below.mono ‹Below _ _ _› (by first | omega | (simp; omega) | (simp; done))))))⟩
            | true =>
              have H6 := Lib.hid (fun W => within_val h6 W)
              cases h7 : inB l 1 12 with
              | false =>
                have H7 := Lib.hid (fun W => within_val h7 W)
                have HT : Hid (lunB ⟨d, p, f, m, y, s, l⟩ = false) := (by simp [lunB, h1, h2, h3, h4, h5, h6, h7] : lunB ⟨d, p, f, m, y, s, l⟩ = false)
                clear h1 h2 h3 h4 h5 h6 h7
                go_enter Tryz.func41, Tryz.ntmps41
                go_wp2_with (first | (go_at_call 35; (with_reducible refine (H1.out _).mono ?_); rintro _ _ ⟨rfl, rfl⟩) | (go_at_call 35; (with_reducible refine (H2.out _).mono ?_); rintro _ _ ⟨rfl, rfl⟩) | (go_at_call 35; (with_reducible refine (H3.out _).mono ?_); rintro _ _ ⟨rfl, rfl⟩) | (go_at_call 35; (with_reducible refine (H4.out _).mono ?_); rintro _ _ ⟨rfl, rfl⟩) | (go_at_call 35; (with_reducible refine (H5.out _).mono ?_); rintro _ _ ⟨rfl, rfl⟩) | (go_at_call 35; (with_reducible refine (H6.out _).mono ?_); rintro _ _ ⟨rfl, rfl⟩) | (go_at_call 35; (with_reducible refine (H7.out _).mono ?_); rintro _ _ ⟨rfl, rfl⟩))
                go_ret
                exact ⟨ret_bool HT.out.symm, by (repeat (first | exact Below.refl _ _ | assumption | (refine Below.alloc ?_ (by first | omega | (simp; omega) | (simp; done)) _) | (refine Below.setCell ?_ (by first | omega | (simp; omega) | (simp; done)) _) | (refine Below.drew ?_) | (refine belowN ?_ _) | (refine Below.trans ?_ (Below.mono ‹Below _ _ _› (by first | omega | (simp; omega) | (simp; done))))))⟩
              | true =>
                have H7 := Lib.hid (fun W => within_val h7 W)
                have HT : Hid (lunB ⟨d, p, f, m, y, s, l⟩ = true) := (by simp [lunB, h1, h2, h3, h4, h5, h6, h7] : lunB ⟨d, p, f, m, y, s, l⟩ = true)
                clear h1 h2 h3 h4 h5 h6 h7
                go_enter Tryz.func41, Tryz.ntmps41
                go_wp2_with (first | (go_at_call 35; (with_reducible refine (H1.out _).mono ?_); rintro _ _ ⟨rfl, rfl⟩) | (go_at_call 35; (with_reducible refine (H2.out _).mono ?_); rintro _ _ ⟨rfl, rfl⟩) | (go_at_call 35; (with_reducible refine (H3.out _).mono ?_); rintro _ _ ⟨rfl, rfl⟩) | (go_at_call 35; (with_reducible refine (H4.out _).mono ?_); rintro _ _ ⟨rfl, rfl⟩) | (go_at_call 35; (with_reducible refine (H5.out _).mono ?_); rintro _ _ ⟨rfl, rfl⟩) | (go_at_call 35; (with_reducible refine (H6.out _).mono ?_); rintro _ _ ⟨rfl, rfl⟩) | (go_at_call 35; (with_reducible refine (H7.out _).mono ?_); rintro _ _ ⟨rfl, rfl⟩))
                go_ret
                exact ⟨ret_bool HT.out.symm, by (repeat (first | exact Below.refl _ _ | assumption | (refine Below.alloc ?_ (by first | omega | (simp; omega) | (simp; done)) _) | (refine Below.setCell ?_ (by first | omega | (simp; omega) | (simp; done)) _) | (refine Below.drew ?_) | (refine belowN ?_ _) | (refine Below.trans ?_ (Below.mono ‹Below _ _ _› (by first | omega | (simp; omega) | (simp; done))))))⟩
structure LunOk (r : Lun) : Prop where
  p : 1 ≤ r.p ∧ r.p ≤ 100000
  d : 27 * r.p ≤ r.d ∧ r.d ≤ 31 * r.p
  f : 0 ≤ r.f ∧ r.f ≤ r.p - 1
  y : 1 ≤ r.y ∧ r.y ≤ 100000
  m : 12 * r.y ≤ r.m ∧ r.m ≤ 13 * r.y
  s : 0 ≤ r.s ∧ r.s ≤ r.y - 1
  l : 1 ≤ r.l ∧ r.l ≤ 12
theorem lunB_iff {r : Lun} : lunB r = true ↔ LunOk r := by
  simp only [lunB, Bool.and_eq_true, inB_iff]
  exact ⟨fun ⟨⟨⟨⟨⟨⟨a, b⟩, c⟩, d⟩, e⟩, f⟩, g⟩ => ⟨a, b, c, d, e, f, g⟩, fun ⟨a, b, c, d, e, f, g⟩ => ⟨⟨⟨⟨⟨⟨a, b⟩, c⟩, d⟩, e⟩, f⟩, g⟩⟩
theorem three_set {W : World} {b t : Nat} {x y z : Value} (h : Blk W b #[x, y, z] t) (u v r : Value) : Blk (((W.setCell ⟨b, 0, none⟩ u).setCell ⟨b, 1, none⟩ v).setCell ⟨b, 2, none⟩ r) b #[u, v, r] t := by
  have := ((h.set 0 u).set 1 v).set 2 r
  simpa using this
theorem three_far {W : World} {b c t : Nat} {cs : Array Value} {u v r : Value} (h : Blk W b cs t) (hne : b ≠ c) : Blk (((W.setCell ⟨c, 0, none⟩ u).setCell ⟨c, 1, none⟩ v).setCell ⟨c, 2, none⟩ r) b cs t :=
  ((h.far ⟨c, 0, none⟩ hne _).far ⟨c, 1, none⟩ hne _).far ⟨c, 2, none⟩ hne _
theorem below_six {n b c : Nat} {W0 W : World} {u v r u' v' r' : Value} (h : Below n W0 W) (hb : n ≤ b) (hc : n ≤ c) :
    Below n W0 ((((((W.setCell ⟨b, 0, none⟩ u).setCell ⟨b, 1, none⟩ v).setCell ⟨b, 2, none⟩ r).setCell ⟨c, 0, none⟩ u').setCell ⟨c, 1, none⟩ v').setCell ⟨c, 2, none⟩ r').drew :=
  ((((((h.setCell (p := ⟨b, 0, none⟩) hb _).setCell (p := ⟨b, 1, none⟩) hb _).setCell (p := ⟨b, 2, none⟩) hb _).setCell (p := ⟨c, 0, none⟩) hc _).setCell (p := ⟨c, 1, none⟩) hc _).setCell (p := ⟨c, 2, none⟩) hc _).drew
theorem rsx {W : World} {b t : Nat} {cs : Array Value} (h : Blk W b cs t) : Blk W.drew b cs t := h
set_option maxRecDepth 100000 in
set_option maxHeartbeats 4000000 in
theorem wheels_any (d p f m y s l : Int) (w : World) : Calls Tryz.prog 67 #[.agg #[.int .i64 d, .int .i64 p, .int .i64 f, .int .i64 m, .int .i64 y, .int .i64 s, .int .i64 l]] w fun en w' => en = .returned (.tuple #[.agg #[.int .i64 d, .int .i64 p, .int .i64 f], .agg #[.int .i64 m, .int .i64 y, .int .i64 s]]) ∧ Below w.heap.size w w' := by
  go_enter Tryz.func67, Tryz.ntmps67
  go_upto_region 1 with fail
  refine gen_w (fun W => Blk W w.heap.size #[.int .i64 d, .int .i64 p, .int .i64 f, .int .i64 m, .int .i64 y, .int .i64 s, .int .i64 l] 26 ∧ Blk W (w.heap.size + 1) #[.int .i64 0, .int .i64 0, .int .i64 0] 107 ∧ Blk W (w.heap.size + 1 + 1) #[.int .i64 0, .int .i64 0, .int .i64 0] 107 ∧ Below w.heap.size w W) ⟨((Blk.at_ rfl).alloc _).alloc _, (Blk.at_ (by simp)).alloc _, Blk.at_ (by simp), by (repeat (first | exact Below.refl _ _ | assumption | (refine Below.alloc ?_ (by first | omega | (simp; omega) | (simp; done)) _) | (refine Below.setCell ?_ (by first | omega | (simp; omega) | (simp; done)) _) | (refine Below.drew ?_) | (refine belowN ?_ _) | (refine Below.trans ?_ (Below.mono ‹Below _ _ _› (by first | omega | (simp; omega) | (simp; done))))))⟩ ?_
  rintro W ⟨g0, g1, g2, hw⟩
  have c0 := g0.cell 0; have c1 := g0.cell 1; have c2 := g0.cell 2; have c3 := g0.cell 3; have c4 := g0.cell 4; have c5 := g0.cell 5
  have e0 := g1.cell 0; have e1 := g1.cell 1; have e2 := g1.cell 2; have e3 := g2.cell 0; have e4 := g2.cell 1; have e5 := g2.cell 2
  have f0 := g1.free 0; have f1 := g1.free 1; have f2 := g1.free 2; have f3 := g2.free 0; have f4 := g2.free 1; have f5 := g2.free 2
  simp at c0 c1 c2 c3 c4 c5 e0 e1 e2 e3 e4 e5
  go_region
  all_goals (
    go_wp2
    refine gen_w (fun X => Blk X (w.heap.size + 1) #[.int .i64 d, .int .i64 p, .int .i64 f] 107 ∧ Blk X (w.heap.size + 1 + 1) #[.int .i64 m, .int .i64 y, .int .i64 s] 107 ∧ Below w.heap.size w X) ⟨by with_reducible exact rsx (three_far (three_set g1 _ _ _) (by omega)), by with_reducible exact rsx (three_set (three_far g2 (by omega)) _ _ _), by with_reducible exact below_six hw (by omega) (by omega)⟩ ?_
    rintro X ⟨k1, k2, hX⟩
    have q0 := k1.cell 0; have q1 := k1.cell 1; have q2 := k1.cell 2; have q3 := k2.cell 0; have q4 := k2.cell 1; have q5 := k2.cell 2
    simp at q0 q1 q2 q3 q4 q5
    exact bodyPost_ret (v := .tuple #[.agg #[.int .i64 d, .int .i64 p, .int .i64 f], .agg #[.int .i64 m, .int .i64 y, .int .i64 s]]) (by simp [results, Tryz.results67, go_sem, q0, q1, q2, q3, q4, q5]) rfl ⟨rfl, hX⟩)
end Go.Proofs.YtfbnllmmoaialaaGreat
namespace Go.Proofs.YtfbnllmmoaialaaGreat
open Go.RowKit

def lcF (a n : Int) : Int := a * (n / gI n a)
def lcL (l : List Int) : Int := l.foldl lcF 1
theorem lcL_snoc (l : List Int) (x : Int) : lcL (l ++ [x]) = lcF (lcL l) x := by simp [lcL]
theorem lcF_bd {a n A : Int} (a1 : 1 ≤ a) (aA : a ≤ A) (n1 : 1 ≤ n) (n2 : n ≤ 100000) : 1 ≤ n / gI n a ∧ n / gI n a ≤ 100000 ∧ 1 ≤ lcF a n ∧ lcF a n ≤ A * 100000 ∧ 1 ≤ gI n a ∧ gI n a ≤ n := by
  have g0 : 0 < gI n a := gI_pos (.inl (by omega))
  have g1 := gI_le_left a (show 0 < n by omega)
  have h1 : 1 ≤ n / gI n a := Int.le_ediv_of_mul_le g0 (by omega)
  have h2 : n / gI n a ≤ n := Int.ediv_le_self _ (by omega)
  have h3 : 1 * 1 ≤ a * (n / gI n a) := Int.mul_le_mul a1 h1 (by omega) (by omega)
  have h4 : a * (n / gI n a) ≤ A * 100000 := Int.mul_le_mul aA (by omega) (by omega) (by omega)
  exact ⟨h1, by omega, by unfold lcF; omega, h4, by omega, g1⟩
/-- how many years ahead of y all of l divide -/
def mulI (y : Int) (l : List Int) : Int := if l.any (fun x => x == 0) then 0 else (y + lcL l - 1) / lcL l
theorem lcL_bd : ∀ (k : Nat) {l : List Int}, k ≤ l.length → (∀ x ∈ l.take k, 1 ≤ x ∧ x ≤ 100000) → 1 ≤ lcL (l.take k) ∧ lcL (l.take k) ≤ 100000 ^ k
  | 0, l, _, _ => by simp [lcL]
  | k + 1, l, hk, h => by
    have e := take_snoc_int l k (by omega)
    rw [e] at h
    obtain ⟨i1, i2⟩ := lcL_bd k (l := l) (by omega) fun x hx => h x (List.mem_append.2 (.inl hx))
    obtain ⟨x1, x2⟩ := h (l[k]'(by omega)) (List.mem_append.2 (.inr (List.mem_singleton.2 rfl)))
    obtain ⟨_, _, h3, h4, _⟩ := lcF_bd i1 i2 x1 x2
    rw [e, lcL_snoc, Int.pow_succ]
    exact ⟨h3, h4⟩
set_option maxHeartbeats 2000000 in
theorem multiples_any (A : Option Addr) (c : Nat) (l : List Int) (y : Int) (w : World) (hl : l.length ≤ 3) (hn : ∀ x ∈ l, 0 ≤ x ∧ x ≤ 100000) (y0 : 0 ≤ y) (y1 : y ≤ 100000) (hr : Sl intCell 1 w w.heap.size A l) :
    Calls Tryz.prog 95 #[.int .i64 y, .slice A l.length c] w fun e w' => e = .returned (.int .i64 (mulI y l)) ∧ Below w.heap.size w w' := by
  have HR := Lib.hid hr; have HN := Lib.hid hn
  clear hr hn
  go_enter Tryz.func95, Tryz.ntmps95
  go_wp2
  go_loopw [5, 7, 10] (fun v _ i wr => ∃ k : Nat, k ≤ l.length ∧ i = .int .i64 k ∧ v = .int .i64 (lcL (l.take k)) ∧ Hid (∀ x ∈ l.take k, 1 ≤ x ∧ x ≤ 100000) ∧ Hid (Below w.heap.size w wr)) (fun _ _ i _ => l.length - (intOf i).toNat)
  case atStart => exact ⟨0, by omega, rfl, rfl, (fun x hx => by simp at hx : ∀ x ∈ l.take 0, 1 ≤ x ∧ x ≤ 100000), Below.refl _ _⟩
  case round =>
    obtain ⟨k, hk, rfl, rfl, HP, HB⟩ := hrel
    obtain ⟨a1, a2⟩ := lcL_bd k hk HP.out
    have a3 : lcL (l.take k) ≤ 1000000000000000 := by
      have : k = 0 ∨ k = 1 ∨ k = 2 ∨ k = 3 := by omega
      rcases this with rfl | rfl | rfl | rfl <;> omega
    by_cases hlt : k < l.length
    · obtain ⟨b, o, rfl, hbb, hc⟩ := (HR.out.below HB.out).int_at hlt
      have HTK := Lib.hid (take_snoc_int l k hlt)
      have HA := Lib.hid (List.getElem_mem hlt)
      obtain ⟨x0, x1⟩ := HN.out _ (List.getElem_mem hlt)
      have a4 : lcL (l.take k) ≤ 10000000000 := by
        have : k = 0 ∨ k = 1 ∨ k = 2 := by omega
        rcases this with rfl | rfl | rfl <;> omega
      obtain ⟨L, hL⟩ : ∃ L, L = lcL (l.take k) := ⟨_, rfl⟩
      have HL := Lib.hid hL
      obtain ⟨x, hx⟩ : ∃ x, x = l[k] := ⟨_, rfl⟩
      rw [← hL] at a1 a3 a4 ⊢
      rw [← hx] at hc x0 x1 HTK HA
      clear a2 hL hx a3
      by_cases hx0 : x = 0
      · subst hx0
        have HT : Hid (mulI y l = 0) := (by
          unfold mulI
          rw [if_pos (List.any_eq_true.2 ⟨0, HA.out, by decide⟩)] : mulI y l = 0)
        go_wp2
        go_ret
        exact ⟨ret_int HT.out.symm, HB.out⟩
      · have e0 : (x == 0) = false := by simpa using hx0
        have e1 : ¬ x = 0 := hx0
        obtain ⟨q1, q2, q3, q4, q5, q6⟩ := lcF_bd a1 a4 (show 1 ≤ x by omega) x1
        have HD := Lib.hid (fun W => divisor_any x L W x0 (by omega) (by omega) (by omega))
        have HF : Hid (L * (x / gI x L) = lcL (l.take (k + 1))) := (by rw [HTK.out, lcL_snoc, ← HL.out]; rfl : L * (x / gI x L) = _)
        have HP2 : Hid (∀ z ∈ l.take (k + 1), 1 ≤ z ∧ z ≤ 100000) := (fun z hz => by
          rw [HTK.out] at hz
          rcases List.mem_append.1 hz with h | h
          · exact HP.out z h
          · rw [List.mem_singleton.1 h]; exact ⟨by omega, x1⟩ : ∀ z ∈ l.take (k + 1), 1 ≤ z ∧ z ≤ 100000)
        unfold lcF at q3 q4
        obtain ⟨g, hg⟩ : ∃ g, g = gI x L := ⟨_, rfl⟩
        rw [← hg] at q1 q2 q3 q4 q5 q6 HD HF
        have g0 : (g == 0) = false := by simp; omega
        obtain ⟨Q, hQ⟩ : ∃ Q, x / g = Q := ⟨_, rfl⟩
        rw [hQ] at q1 q2 q3 q4 HF
        clear hg
        have hb := HB.out
        go_wp2_with (go_at_call 38; refine (HD.out _).mono ?_; rintro _ w2 ⟨rfl, hb2⟩)
        go_roundw
        case rel => exact ⟨k + 1, by omega, by go_num, by rw [HF.out], HP2, bl2 hb hb2⟩
        case measure => simp [intOf]; omega
    · obtain rfl : k = l.length := by omega
      have HP := HP.out
      rw [List.take_length] at a1 a3 HP ⊢
      have HT : Hid (mulI y l = (y + lcL l - 1) / lcL l) := (by
        unfold mulI
        rw [if_neg]
        intro h
        obtain ⟨x, hx, h2⟩ := List.any_eq_true.1 h
        have := HP x hx
        simp at h2; omega : mulI y l = _)
      obtain ⟨L, hL⟩ : ∃ L, L = lcL l := ⟨_, rfl⟩
      rw [← hL] at a1 a3 HT ⊢
      have l0 : (L == 0) = false := by simp; omega
      clear a2 hL HP
      go_wp2
      go_ret
      exact ⟨ret_int HT.out.symm, HB.out⟩
end Go.Proofs.YtfbnllmmoaialaaGreat

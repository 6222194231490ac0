/- almanac: the laws' helpers: own, large. -/
import Derived.Test.YtfbnllmmoaialaaGreatZ19Fa
import Derived.Test.YtfbnllmmoaialaaGreatZ00Mem
namespace Go.Proofs.YtfbnllmmoaialaaGreat
open Go.RowKit

theorem blk11 {W : World} {b t : Nat} {x0 x1 x2 x3 x4 x5 x6 x7 x8 x9 x10 : Value} (h : Blk W b #[x0, x1, x2, x3, x4, x5, x6, x7, x8, x9, x10] t) (y0 y1 y2 y3 y4 y5 y6 y7 y8 y9 y10 : Value) : Blk (((((((((((W.setCell ⟨b, 0, none⟩ y0).setCell ⟨b, 1, none⟩ y1).setCell ⟨b, 2, none⟩ y2).setCell ⟨b, 3, none⟩ y3).setCell ⟨b, 4, none⟩ y4).setCell ⟨b, 5, none⟩ y5).setCell ⟨b, 6, none⟩ y6).setCell ⟨b, 7, none⟩ y7).setCell ⟨b, 8, none⟩ y8).setCell ⟨b, 9, none⟩ y9).setCell ⟨b, 10, none⟩ y10) b #[y0, y1, y2, y3, y4, y5, y6, y7, y8, y9, y10] t := by
  have := (((((((((((h.set 0 y0).set 1 y1).set 2 y2).set 3 y3).set 4 y4).set 5 y5).set 6 y6).set 7 y7).set 8 y8).set 9 y9).set 10 y10)
  simpa using this
theorem below11 {n b : Nat} {W0 W : World} {y0 y1 y2 y3 y4 y5 y6 y7 y8 y9 y10 : Value} (h : Below n W0 W) (hb : n ≤ b) : Below n W0 (((((((((((W.setCell ⟨b, 0, none⟩ y0).setCell ⟨b, 1, none⟩ y1).setCell ⟨b, 2, none⟩ y2).setCell ⟨b, 3, none⟩ y3).setCell ⟨b, 4, none⟩ y4).setCell ⟨b, 5, none⟩ y5).setCell ⟨b, 6, none⟩ y6).setCell ⟨b, 7, none⟩ y7).setCell ⟨b, 8, none⟩ y8).setCell ⟨b, 9, none⟩ y9).setCell ⟨b, 10, none⟩ y10) := (((((((((((h.setCell (p := ⟨b, 0, none⟩) hb _).setCell (p := ⟨b, 1, none⟩) hb _).setCell (p := ⟨b, 2, none⟩) hb _).setCell (p := ⟨b, 3, none⟩) hb _).setCell (p := ⟨b, 4, none⟩) hb _).setCell (p := ⟨b, 5, none⟩) hb _).setCell (p := ⟨b, 6, none⟩) hb _).setCell (p := ⟨b, 7, none⟩) hb _).setCell (p := ⟨b, 8, none⟩) hb _).setCell (p := ⟨b, 9, none⟩) hb _).setCell (p := ⟨b, 10, none⟩) hb _)
theorem flat_oneC (l : List Cyc) : ∀ u ∈ flat Cyc.cells l, u.oneCell' = true := by
  intro u hu
  obtain ⟨x, _, hx⟩ := List.mem_flatMap.1 hu
  simp [Cyc.cells] at hx
  rcases hx with rfl | rfl <;> rfl
set_option maxRecDepth 100000 in
set_option maxHeartbeats 4000000 in
theorem ownF_any (x : Alm) (w : World) (hz : x.a = none → x.c = 0) (hl : x.cycles.length ≤ 1000000) (hr : Sl Cyc.cells 2 w w.heap.size x.a x.cycles) :
    Calls Tryz.prog 8 #[.agg x.cells.toArray] w fun e w' => ∃ A c, e = .returned (.agg (Alm.cells ⟨A, c, x.cycles, x.sol, x.lun⟩).toArray) ∧ Sl Cyc.cells 2 w' w'.heap.size A x.cycles ∧ (A = none → c = 0) ∧ Below w.heap.size w w' ∧ Hid (w'.ownsRow w.heap.size 52 2 (.slice A x.cycles.length c) x.cycles.length (flat Cyc.cells x.cycles)) := by
  obtain ⟨A, c, l, ⟨e, b, u⟩, ⟨d, p, f, m, y, s, k⟩⟩ := x
  simp only at hz hl hr ⊢
  have HC := Lib.hid (fun W (hW : Below w.heap.size w W) => cycles0_any A c l W hl hz (flat_oneC l) ((hr.below hW).more hW.size))
  clear hr
  simp only [Alm.cells]
  go_enter Tryz.func8, Tryz.ntmps8
  go_upto_region 1 with fail
  refine gen_w (fun W => Blk W w.heap.size #[.slice A l.length c, .int .i64 e, .int .i64 b, .int .i64 u, .int .i64 d, .int .i64 p, .int .i64 f, .int .i64 m, .int .i64 y, .int .i64 s, .int .i64 k] 28 ∧ Blk W (w.heap.size + 1) #[.slice none 0 0, .int .i64 0, .int .i64 0, .int .i64 0, .int .i64 0, .int .i64 0, .int .i64 0, .int .i64 0, .int .i64 0, .int .i64 0, .int .i64 0] 28 ∧ Below w.heap.size w W) ⟨(Blk.at_ rfl).alloc _, Blk.at_ (by simp), by (repeat (first | exact Below.refl _ _ | assumption | (refine Below.alloc ?_ (by first | omega | (simp; omega) | (simp; done)) _) | (refine Below.setCell ?_ (by first | omega | (simp; omega) | (simp; done)) _) | (refine Below.drew ?_) | (refine belowN ?_ _) | (refine Below.trans ?_ (Below.mono ‹Below _ _ _› (by first | omega | (simp; omega) | (simp; done))))))⟩ ?_
  rintro V0 ⟨ga, g1, hw⟩
  have hV0 : w.heap.size + 1 < V0.heap.size := g1.lt
  have z0 := ga.cell 0; have z1 := ga.cell 1; have z2 := ga.cell 2; have z3 := ga.cell 3; have z4 := ga.cell 4; have z5 := ga.cell 5; have z6 := ga.cell 6; have z7 := ga.cell 7; have z8 := ga.cell 8; have z9 := ga.cell 9; have z10 := ga.cell 10
  simp at z0 z1 z2 z3 z4 z5 z6 z7 z8 z9 z10
  go_upto_region 2 with (go_at_call 27; (with_reducible refine (HC.out _ hw).mono ?_); rintro _ w3 ⟨vv, rfl, hown, hb1⟩; obtain ⟨A1, k1, rfl⟩ := own_slice hown; have HOW := Lib.hid hown; clear hown; have hw := bl2 hw hb1; have ga := ga.below hb1 ga.lt; have g1 := g1.below hb1 g1.lt; have fa := ga.free 0; have fz := ga.cell 0; simp at fz)
  refine gen_w (fun W => Blk W w.heap.size #[(.slice A1 l.length k1), .int .i64 e, .int .i64 b, .int .i64 u, .int .i64 d, .int .i64 p, .int .i64 f, .int .i64 m, .int .i64 y, .int .i64 s, .int .i64 k] 28 ∧ Blk W (w.heap.size + 1) #[.slice none 0 0, .int .i64 0, .int .i64 0, .int .i64 0, .int .i64 0, .int .i64 0, .int .i64 0, .int .i64 0, .int .i64 0, .int .i64 0, .int .i64 0] 28 ∧ Below w.heap.size w W ∧ Hid (W.ownsRow V0.heap.size 52 2 (.slice A1 l.length k1) l.length (flat Cyc.cells l))) ⟨by have h := ga.set 0 (.slice A1 l.length k1); simpa using h, g1.far ⟨w.heap.size, 0, none⟩ (by show w.heap.size + 1 ≠ w.heap.size; omega) _, hw.setCell (p := ⟨w.heap.size, 0, none⟩) (Nat.le_refl _) _, ownsRow_set HOW.out (p := ⟨w.heap.size, 0, none⟩) (by show w.heap.size < V0.heap.size; omega) _⟩ ?_
  clear ga g1 hw HOW fa fz hb1 z0 z1 z2 z3 z4 z5 z6 z7 z8 z9 z10
  rintro W2 ⟨ga, g1, hw, HO2⟩
  have z0 := ga.cell 0; have z1 := ga.cell 1; have z2 := ga.cell 2; have z3 := ga.cell 3; have z4 := ga.cell 4; have z5 := ga.cell 5; have z6 := ga.cell 6; have z7 := ga.cell 7; have z8 := ga.cell 8; have z9 := ga.cell 9; have z10 := ga.cell 10
  simp at z0 z1 z2 z3 z4 z5 z6 z7 z8 z9 z10
  have kk0 := g1.cell 0; have kk1 := g1.cell 1; have kk2 := g1.cell 2; have kk3 := g1.cell 3; have kk4 := g1.cell 4; have kk5 := g1.cell 5; have kk6 := g1.cell 6; have kk7 := g1.cell 7; have kk8 := g1.cell 8; have kk9 := g1.cell 9; have kk10 := g1.cell 10
  simp at kk0 kk1 kk2 kk3 kk4 kk5 kk6 kk7 kk8 kk9 kk10
  have ff0 := g1.free 0; have ff1 := g1.free 1; have ff2 := g1.free 2; have ff3 := g1.free 3; have ff4 := g1.free 4; have ff5 := g1.free 5; have ff6 := g1.free 6; have ff7 := g1.free 7; have ff8 := g1.free 8; have ff9 := g1.free 9; have ff10 := g1.free 10
  go_wp2_with fail
  have g3 := blk11 g1 ((.slice A1 l.length k1)) (.int .i64 e) (.int .i64 b) (.int .i64 u) (.int .i64 d) (.int .i64 p) (.int .i64 f) (.int .i64 m) (.int .i64 y) (.int .i64 s) (.int .i64 k)
  have hw3 := below11 (b := w.heap.size + 1) (y0 := (.slice A1 l.length k1)) (y1 := .int .i64 e) (y2 := .int .i64 b) (y3 := .int .i64 u) (y4 := .int .i64 d) (y5 := .int .i64 p) (y6 := .int .i64 f) (y7 := .int .i64 m) (y8 := .int .i64 y) (y9 := .int .i64 s) (y10 := .int .i64 k) hw (by omega)
  have hlt1 : w.heap.size + 1 < V0.heap.size := hV0
  have ho3 := (ownsRow_set (ownsRow_set (ownsRow_set (ownsRow_set (ownsRow_set (ownsRow_set (ownsRow_set (ownsRow_set (ownsRow_set (ownsRow_set (ownsRow_set HO2.out (p := ⟨w.heap.size + 1, 0, none⟩) hlt1 ((.slice A1 l.length k1))) (p := ⟨w.heap.size + 1, 1, none⟩) hlt1 (.int .i64 e)) (p := ⟨w.heap.size + 1, 2, none⟩) hlt1 (.int .i64 b)) (p := ⟨w.heap.size + 1, 3, none⟩) hlt1 (.int .i64 u)) (p := ⟨w.heap.size + 1, 4, none⟩) hlt1 (.int .i64 d)) (p := ⟨w.heap.size + 1, 5, none⟩) hlt1 (.int .i64 p)) (p := ⟨w.heap.size + 1, 6, none⟩) hlt1 (.int .i64 f)) (p := ⟨w.heap.size + 1, 7, none⟩) hlt1 (.int .i64 m)) (p := ⟨w.heap.size + 1, 8, none⟩) hlt1 (.int .i64 y)) (p := ⟨w.heap.size + 1, 9, none⟩) hlt1 (.int .i64 s)) (p := ⟨w.heap.size + 1, 10, none⟩) hlt1 (.int .i64 k))
  generalize ((((((((((W2.setCell ⟨w.heap.size + 1, 0, none⟩ ((.slice A1 l.length k1))).setCell ⟨w.heap.size + 1, 1, none⟩ (.int .i64 e)).setCell ⟨w.heap.size + 1, 2, none⟩ (.int .i64 b)).setCell ⟨w.heap.size + 1, 3, none⟩ (.int .i64 u)).setCell ⟨w.heap.size + 1, 4, none⟩ (.int .i64 d)).setCell ⟨w.heap.size + 1, 5, none⟩ (.int .i64 p)).setCell ⟨w.heap.size + 1, 6, none⟩ (.int .i64 f)).setCell ⟨w.heap.size + 1, 7, none⟩ (.int .i64 m)).setCell ⟨w.heap.size + 1, 8, none⟩ (.int .i64 y)).setCell ⟨w.heap.size + 1, 9, none⟩ (.int .i64 s)).setCell ⟨w.heap.size + 1, 10, none⟩ (.int .i64 k) = W3 at g3 hw3 ho3 ⊢
  have q0 := g3.cell 0; have q1 := g3.cell 1; have q2 := g3.cell 2; have q3 := g3.cell 3; have q4 := g3.cell 4; have q5 := g3.cell 5; have q6 := g3.cell 6; have q7 := g3.cell 7; have q8 := g3.cell 8; have q9 := g3.cell 9; have q10 := g3.cell 10
  simp at q0 q1 q2 q3 q4 q5 q6 q7 q8 q9 q10
  refine bodyPost_ret (v := .agg #[(.slice A1 l.length k1), .int .i64 e, .int .i64 b, .int .i64 u, .int .i64 d, .int .i64 p, .int .i64 f, .int .i64 m, .int .i64 y, .int .i64 s, .int .i64 k]) (by simp [results, Tryz.results8, go_sem, q0, q1, q2, q3, q4, q5, q6, q7, q8, q9, q10]) rfl ?_
  have ho4 := ownsRow_low ho3 (show w.heap.size ≤ V0.heap.size by omega)
  obtain ⟨A9, k9, e9, hs1, hz1⟩ := sl_of_ownN ho3
  have e9' : A1 = A9 ∧ k1 = k9 := by simpa using e9
  obtain ⟨rfl, rfl⟩ := e9'
  exact ⟨A1, k1, rfl, hs1, hz1, hw3, ho4⟩
theorem own_any (x : Alm) (w : World) (hz : x.a = none → x.c = 0) (hl : x.cycles.length ≤ 1000000) (hr : Sl Cyc.cells 2 w w.heap.size x.a x.cycles) :
    Calls Tryz.prog 8 #[.agg x.cells.toArray] w fun e w' => ∃ A c, e = .returned (.agg (Alm.cells ⟨A, c, x.cycles, x.sol, x.lun⟩).toArray) ∧ Sl Cyc.cells 2 w' w'.heap.size A x.cycles ∧ (A = none → c = 0) ∧ Below w.heap.size w w' :=
  (ownF_any x w hz hl hr).mono fun _ _ ⟨A, c, h1, h2, h3, h4, _⟩ => ⟨A, c, h1, h2, h3, h4⟩
/-- rules as they come in: of any length -/
structure RulW (W : World) (B : Nat) (r : DRl) : Prop where
  set : ∀ t ∈ r.when_, 0 ≤ t.set ∧ t.set < 18446744073709551616
  sl : Sl DTs.cells 5 W B r.wa r.when_
  nil : r.wa = none → r.wc = 0
structure RlsW (W : World) (B : Nat) (A : Option Addr) (l : List DRl) : Prop where
  sl : Sl DRl.cells 2 W B A l
  rul : ∀ r ∈ l, RulW W B r
theorem RulW.below {W W' : World} {B : Nat} {r : DRl} (h : RulW W B r) (hb : Below B W W') : RulW W' B r := ⟨h.set, h.sl.below hb, h.nil⟩
theorem RulW.more {W : World} {B B' : Nat} {r : DRl} (h : RulW W B r) (hB : B ≤ B') : RulW W B' r := ⟨h.set, h.sl.more hB, h.nil⟩
theorem RlsW.below {W W' : World} {B : Nat} {A : Option Addr} {l : List DRl} (h : RlsW W B A l) (hb : Below B W W') : RlsW W' B A l := ⟨h.sl.below hb, fun r hr => (h.rul r hr).below hb⟩
theorem RlsW.more {W : World} {B B' : Nat} {A : Option Addr} {l : List DRl} (h : RlsW W B A l) (hB : B ≤ B') : RlsW W B' A l := ⟨h.sl.more hB, fun r hr => (h.rul r hr).more hB⟩
theorem RlsW.at_ {W : World} {B : Nat} {A : Option Addr} {l : List DRl} (h : RlsW W B A l) (h1 : l.length ≤ 1000000) (h2 : ∀ r ∈ l, r.when_.length ≤ 1000000) : RlsAt W B A l := ⟨h1, h.sl, fun r hr => ⟨h2 r hr, (h.rul r hr).set, (h.rul r hr).sl⟩⟩
/-- more than is looked at -/
def largeB (x : Alm) (rs : List DRl) : Bool := decide (35 < rs.length) || (decide (10 < x.cycles.length) || rs.any fun r => decide (8 < r.when_.length))
set_option maxRecDepth 100000 in
set_option maxHeartbeats 4000000 in
theorem large_any (x : Alm) (A2 : Option Addr) (c2 : Nat) (rs : List DRl) (w : World) (hr : RlsW w w.heap.size A2 rs) :
    Calls Tryz.prog 4 #[.agg x.cells.toArray, .slice A2 rs.length c2] w fun e w' => e = .returned (.bool (largeB x rs)) ∧ Below w.heap.size w w' := by
  have HRL := Lib.hid hr
  obtain ⟨A, c, l, ⟨e, b, u⟩, ⟨d, p, f, m, y, s, k⟩⟩ := x
  have HB : Hid (largeB ⟨A, c, l, ⟨e, b, u⟩, ⟨d, p, f, m, y, s, k⟩⟩ rs = (decide (35 < rs.length) || (decide (10 < l.length) || rs.any fun r => decide (8 < r.when_.length)))) := (rfl : largeB _ rs = _)
  obtain ⟨res, hres⟩ : ∃ z, z = largeB ⟨A, c, l, ⟨e, b, u⟩, ⟨d, p, f, m, y, s, k⟩⟩ rs := ⟨_, rfl⟩
  rw [← hres] at HB ⊢
  clear hr hres
  simp only [Alm.cells]
  by_cases h1 : 35 < rs.length
  · have t1 : decide ((35 : Int) < (rs.length : Int)) = true := by simp; omega
    have HT : Hid (res = true) := (by rw [HB.out, decide_eq_true h1]; rfl : res = true)
    go_enter Tryz.func4, Tryz.ntmps4
    go_wp2
    go_ret
    exact ⟨ret_bool HT.out.symm, by (repeat (first | exact Below.refl _ _ | assumption | (refine Below.alloc ?_ (by first | omega | (simp; omega) | (simp; done)) _) | (refine Below.setCell ?_ (by first | omega | (simp; omega) | (simp; done)) _) | (refine Below.drew ?_) | (refine belowN ?_ _) | (refine Below.trans ?_ (Below.mono ‹Below _ _ _› (by first | omega | (simp; omega) | (simp; done))))))⟩
  · have t1 : decide ((35 : Int) < (rs.length : Int)) = false := by simp; omega
    by_cases h2 : 10 < l.length
    · have t2 : decide ((10 : Int) < (l.length : Int)) = true := by simp; omega
      have HT : Hid (res = true) := (by rw [HB.out, decide_eq_true h2]; simp : res = true)
      go_enter Tryz.func4, Tryz.ntmps4
      go_wp2
      go_ret
      exact ⟨ret_bool HT.out.symm, by (repeat (first | exact Below.refl _ _ | assumption | (refine Below.alloc ?_ (by first | omega | (simp; omega) | (simp; done)) _) | (refine Below.setCell ?_ (by first | omega | (simp; omega) | (simp; done)) _) | (refine Below.drew ?_) | (refine belowN ?_ _) | (refine Below.trans ?_ (Below.mono ‹Below _ _ _› (by first | omega | (simp; omega) | (simp; done))))))⟩
    · have t2 : decide ((10 : Int) < (l.length : Int)) = false := by simp; omega
      have HB2 : Hid (res = rs.any fun r => decide (8 < r.when_.length)) := (by rw [HB.out, decide_eq_false h1, decide_eq_false h2]; rfl : res = _)
      have hlen : rs.length ≤ 35 := by omega
      clear h1 h2 HB
      go_enter Tryz.func4, Tryz.ntmps4
      go_upto_region 4 with fail
      refine gen_w (fun W => Below w.heap.size w W) (by (repeat (first | exact Below.refl _ _ | assumption | (refine Below.alloc ?_ (by first | omega | (simp; omega) | (simp; done)) _) | (refine Below.setCell ?_ (by first | omega | (simp; omega) | (simp; done)) _) | (refine Below.drew ?_) | (refine belowN ?_ _) | (refine Below.trans ?_ (Below.mono ‹Below _ _ _› (by first | omega | (simp; omega) | (simp; done))))))) ?_
      rintro V0 hw
      go_loopw [5] (fun i wr => ∃ q : Nat, q ≤ rs.length ∧ i = .int .i64 q ∧ Hid (res = (rs.drop q).any fun r => decide (8 < r.when_.length)) ∧ Hid (Below w.heap.size w wr)) (fun i _ => rs.length - (intOf i).toNat)
      case atStart => exact ⟨0, by omega, rfl, HB2, hw⟩
      case round =>
        clear hw
        obtain ⟨q, hq, rfl, HR, hbw⟩ := hrel
        have hw := hbw.out
        clear hbw
        by_cases hlt : q < rs.length
        · obtain ⟨rb, ro, rfl, hrblk, hrcell⟩ := (HRL.out.sl.below hw).at_ (k := q) (fun _ => rfl) hlt
          have HZ : Hid (rs.drop q = rs[q] :: rs.drop (q + 1)) := (List.drop_eq_getElem_cons hlt : _ = _)
          obtain ⟨r, hre⟩ : ∃ r, r = rs[q] := ⟨_, rfl⟩
          rw [← hre] at hrcell HZ
          obtain ⟨ra, rc, ts, al⟩ := r
          have r0 : wr.cell? ⟨rb, ro + q * 2, none⟩ = some (.slice ra ts.length rc) := hrcell 0 _ rfl
          have k0 : (0 : Int) ≤ (q : Int) := by omega
          have k1 : (q : Int) < (rs.length : Int) := by omega
          have HR1 : Hid (res = (decide (8 < ts.length) || (rs.drop (q + 1)).any fun r => decide (8 < r.when_.length))) := (by rw [HR.out, HZ.out]; rfl : res = _)
          clear hrcell hre
          by_cases h8 : 8 < ts.length
          · have t8 : decide ((8 : Int) < (ts.length : Int)) = true := by simp; omega
            have HT : Hid (res = true) := (by rw [HR1.out, decide_eq_true h8]; rfl : res = true)
            go_wp2_with fail
            go_ret
            exact ⟨ret_bool HT.out.symm, hw⟩
          · have t8 : decide ((8 : Int) < (ts.length : Int)) = false := by simp; omega
            have HR2 : Hid (res = (rs.drop (q + 1)).any fun r => decide (8 < r.when_.length)) := (by rw [HR1.out, decide_eq_false h8]; rfl : res = _)
            go_wp2_with fail
            go_roundw
            case rel => exact ⟨q + 1, by omega, by go_num, HR2, hw⟩
            case measure => simp [intOf]; omega
        · obtain rfl : q = rs.length := by omega
          have HT : Hid (res = false) := (by rw [HR.out, List.drop_eq_nil_of_le (Nat.le_refl _)]; rfl : res = false)
          go_wp2_with fail
          go_ret
          exact ⟨ret_bool HT.out.symm, hw⟩
theorem not_large {x : Alm} {rs : List DRl} (h : largeB x rs = false) : rs.length ≤ 35 ∧ x.cycles.length ≤ 10 ∧ ∀ r ∈ rs, r.when_.length ≤ 8 := by
  unfold largeB at h
  simp only [Bool.or_eq_false_iff, decide_eq_false_iff_not, List.any_eq_false] at h
  exact ⟨by omega, by omega, fun r hr => by have := h.2.2 r hr; simp at this; omega⟩
end Go.Proofs.YtfbnllmmoaialaaGreat
namespace Go.Proofs.YtfbnllmmoaialaaGreat
open Go.RowKit

/-- the almanac with other addresses -/
abbrev Alm.at_ (x : Alm) (A : Option Addr) (c : Nat) : Alm := ⟨A, c, x.cycles, x.sol, x.lun⟩
section
variable {x : Alm} {A : Option Addr} {c : Nat} {l l' : List DRl}
theorem len_pl (h : l'.map DRl.pl = l.map DRl.pl) : l'.length = l.length := by
  have := congrArg List.length h
  simpa using this
theorem any_pl {p : DRl → Bool} (hp : ∀ r, p r.pl = p r) (h : l'.map DRl.pl = l.map DRl.pl) : l'.any p = l.any p := by
  have e : ∀ l : List DRl, l.any p = (l.map DRl.pl).any p := fun l => by
    rw [List.any_map]
    congr 1
    funext r
    exact (hp r).symm
  rw [e l', h, ← e l]
theorem chkE_pl (cs : List Cyc) (h : l'.map DRl.pl = l.map DRl.pl) : chkE cs l' = chkE cs l := by
  unfold chkE
  rw [len_pl h, any_pl (fun _ => rfl) h]
theorem bothE_cong (h : l'.map DRl.pl = l.map DRl.pl) : bothE (x.at_ A c) l' = bothE x l := by
  unfold bothE
  rw [show almB (x.at_ A c) = almB x from rfl, chkE_pl _ h]
theorem lastTo_pl {p : DRl → Bool} (hp : ∀ r, p r.pl = p r) : ∀ (l : List DRl) (n : Nat), lastTo p (l.map DRl.pl) n = lastTo p l n
  | l, 0 => rfl
  | l, n + 1 => by
    simp only [lastTo, List.getElem?_map]
    cases l[n]? with
    | none => exact lastTo_pl hp l n
    | some r => simp only [Option.map_some, hp r, lastTo_pl hp l n]
theorem decI_cong (h : l'.map DRl.pl = l.map DRl.pl) (day : Int) : decI (x.at_ A c) l' day = decI x l day := by
  have e : ∀ l : List DRl, decI (x.at_ A c) l day = lastTo (applB x day) l l.length := fun _ => rfl
  have hp : ∀ r, applB x day r.pl = applB x day r := fun _ => rfl
  rw [e, ← lastTo_pl hp l', h, lastTo_pl hp l, len_pl h]
  rfl
theorem get_pl (h : l'.map DRl.pl = l.map DRl.pl) (n : Nat) : (l'[n]?).map DRl.pl = (l[n]?).map DRl.pl := by
  have := congrArg (fun z : List DRl => z[n]?) h
  simpa using this
theorem allowB_cong (h : l'.map DRl.pl = l.map DRl.pl) (day : Int) : allowB (x.at_ A c) l' day = allowB x l day := by
  unfold allowB
  rw [decI_cong h]
  congr 1
  have hg := get_pl h (decI x l day).toNat
  cases h1 : l'[(decI x l day).toNat]? with
  | none =>
    rw [h1] at hg
    cases h2 : l[(decI x l day).toNat]? with
    | none => rfl
    | some r => rw [h2] at hg; simp at hg
  | some r' =>
    rw [h1] at hg
    cases h2 : l[(decI x l day).toNat]? with
    | none => rw [h2] at hg; simp at hg
    | some r =>
      rw [h2] at hg
      simp only [Option.map_some, Option.some.injEq] at hg
      have h3 : r'.pl.allow = r.pl.allow := congrArg DRl.allow hg
      exact h3
theorem allowedR_cong (h : l'.map DRl.pl = l.map DRl.pl) (day : Int) : allowedR (x.at_ A c) l' day = allowedR x l day := by
  unfold allowedR
  rw [bothE_cong h, allowB_cong h, decI_cong h]
theorem spanL_cong (h : l'.map DRl.pl = l.map DRl.pl) (fr to_ : Int) : spanL (x.at_ A c) l' fr to_ = spanL x l fr to_ := by
  have e : ∀ (x : Alm) (l : List DRl), allB x [⟨none, 0, l⟩] = fun day => allowB x l day := fun x l => by funext day; simp [allB]
  unfold spanL daysL daysN
  rw [e, e]
  congr 1
  funext day
  exact allowB_cong h day
theorem nextR_cong (h : l'.map DRl.pl = l.map DRl.pl) (fr to_ : Int) : nextR (x.at_ A c) l' fr to_ = nextR x l fr to_ := by
  unfold nextR
  rw [bothE_cong h, spanL_cong h]
theorem countR_cong (h : l'.map DRl.pl = l.map DRl.pl) (fr to_ : Int) : countR (x.at_ A c) l' fr to_ = countR x l fr to_ := by
  unfold countR
  rw [bothE_cong h, spanL_cong h]
theorem planR_cong (h : l'.map DRl.pl = l.map DRl.pl) (s0 s1 g0 g1 T : Int) : planR (x.at_ A c) l' s0 s1 g0 g1 T = planR x l s0 s1 g0 g1 T := by
  unfold planR
  rw [bothE_cong h, spanL_cong h]
end
/-- what a rules' list that came in says -/
structure RlsIn (W : World) (A : Option Addr) (l : List DRl) : Prop where
  at_ : RlsAt W W.heap.size A l
  nil : ∀ r ∈ l, r.wa = none → r.wc = 0
theorem RlsIn.w {W : World} {A : Option Addr} {l : List DRl} (h : RlsIn W A l) : RlsW W W.heap.size A l := ⟨h.at_.sl, fun r hr => ⟨(h.at_.rul r hr).set, (h.at_.rul r hr).sl, h.nil r hr⟩⟩
end Go.Proofs.YtfbnllmmoaialaaGreat
namespace Go.Proofs.YtfbnllmmoaialaaGreat
open Go.RowKit Go.ChangeShapes Go.WideShapes Go.ChangeAt Go.Deep

theorem u64_wf {n : Int} (h : (Lit.int .u64 n).wf = true) : 0 ≤ n ∧ n < 18446744073709551616 := by
  simp only [Lit.wf, Bool.and_eq_true, decide_eq_true_eq] at h
  have h1 : IntKind.u64.min = 0 := by decide
  have h2 : IntKind.u64.max = 18446744073709551615 := by decide
  rw [h1, h2] at h; omega
section
variable {H : Type} {enc : TypeId × Value → H} {w : World} {base : Nat} {spare : Nat → Bool} {held : Bool}
theorem open_tstD {n : Nat} {cs : List Value} {y : DataW H × List MemPlace} (h : DataW.trod enc Tryz.prog w base spare held n 90 cs = some y) (hl : cs.length = 5) : ∃ u : DTs, (0 ≤ u.set ∧ u.set < 18446744073709551616) ∧ u.cells = cs := by
  obtain ⟨m, hf⟩ := struct_cells Tryz.underlying90 (by kernel_rfl) hl h
  obtain ⟨v0, z0, c0, t0⟩ := hf 0 _ rfl
  obtain ⟨v1, z1, c1, t1⟩ := hf 1 _ rfl
  obtain ⟨v2, z2, c2, t2⟩ := hf 2 _ rfl
  obtain ⟨v3, z3, c3, t3⟩ := hf 3 _ rfl
  obtain ⟨v4, z4, c4, t4⟩ := hf 4 _ rfl
  obtain ⟨a0, e0, _, _⟩ := DataW.trod_int (show Tryz.prog.underlying _ = some (.int .i64) by kernel_rfl) t0
  obtain ⟨a1, e1, _, _⟩ := DataW.trod_int (show Tryz.prog.underlying _ = some (.int .i64) by kernel_rfl) t1
  obtain ⟨a2, e2, _, w2⟩ := DataW.trod_int (show Tryz.prog.underlying _ = some (.int .u64) by kernel_rfl) t2
  obtain ⟨a3, e3, _, _⟩ := DataW.trod_int (show Tryz.prog.underlying _ = some (.int .i64) by kernel_rfl) t3
  obtain ⟨a4, e4, _, _⟩ := DataW.trod_int (show Tryz.prog.underlying _ = some (.int .i64) by kernel_rfl) t4
  simp only [List.cons.injEq, and_true] at e0 e1 e2 e3 e4
  subst e0 e1 e2 e3 e4
  refine ⟨⟨a0, a1, a2, a3, a4⟩, u64_wf w2, ?_⟩
  match cs, hl with
  | [x0, x1, x2, x3, x4], _ =>
    simp at c0 c1 c2 c3 c4
    simp [DTs.cells, c0, c1, c2, c3, c4]
theorem open_drule {n : Nat} {cs : List Value} {y : DataW H × List MemPlace} (h : DataW.trod enc Tryz.prog w base spare held n 48 cs = some y) (hl : cs.length = 2) : ∃ u : DRl, RulW w w.heap.size u ∧ u.cells = cs := by
  obtain ⟨m, hf⟩ := struct_cells Tryz.underlying48 (by kernel_rfl) hl h
  obtain ⟨v0, z0, c0, t0⟩ := hf 0 _ rfl
  obtain ⟨v1, z1, c1, t1⟩ := hf 1 _ rfl
  obtain ⟨A0, d0, l0, e0, s0, n0, q0⟩ := open_sl DTs.cells 5 (by omega) (fun _ => rfl) (fun u : DTs => 0 ≤ u.set ∧ u.set < 18446744073709551616) uTestsL (by kernel_rfl) (fun n cs' y hy hl => open_tstD hy hl) t0
  obtain ⟨a1, e1, _⟩ := DataW.trod_bool (show Tryz.prog.underlying _ = some .bool by kernel_rfl) t1
  simp only [List.cons.injEq, and_true] at e0 e1
  subst e0 e1
  refine ⟨⟨A0, d0, l0, a1⟩, ⟨q0, s0, n0⟩, ?_⟩
  match cs, hl with
  | [x0, x1], _ =>
    simp at c0 c1
    simp [DRl.cells, c0, c1]
theorem open_drules {n : Nat} {cs : List Value} {y : DataW H × List MemPlace} (h : DataW.trod enc Tryz.prog w base spare held n 29 cs = some y) : ∃ A c l, cs = [.slice A l.length c] ∧ RlsW w w.heap.size A l ∧ (A = none → c = 0) := by
  obtain ⟨A, c, l, h1, h2, h3, h4⟩ := open_sl DRl.cells 2 (by omega) (fun _ => rfl) (fun u => RulW w w.heap.size u) uRulesL (by kernel_rfl) (fun n cs' y hy hl => open_drule hy hl) h
  exact ⟨A, c, l, h1, ⟨h2, h4⟩, h3⟩
set_option maxRecDepth 100000 in
theorem arg_drules {W : World} {v : Value} {d : DataW H} {p : List MemPlace} {b0 : Nat} (hv : Value.okWide Tryz.prog W .any b0 29 v) (h : DataW.Trod enc Tryz.prog W 0 (fun _ => true) true 29 v d p) : ∃ A c l, v = .slice A l.length c ∧ RlsW W W.heap.size A l ∧ (A = none → c = 0) := by
  obtain ⟨fuel, hf⟩ := h
  obtain ⟨A, c, l, h1, h2, h3⟩ := open_drules hf
  refine ⟨A, c, l, ?_, h2, h3⟩
  simp only [Value.okWide, uRulesL, Cell.okWide] at hv
  cases v <;> simp_all [Value.cells, Cell.ok]
set_option maxRecDepth 100000 in
theorem arg_alm {W : World} {v : Value} {d : DataW H} {p : List MemPlace} {b0 : Nat} (hv : Value.okWide Tryz.prog W .any b0 28 v) (h : DataW.Trod enc Tryz.prog W 0 (fun _ => true) true 28 v d p) : ∃ x : Alm, v = .agg x.cells.toArray ∧ Sl Cyc.cells 2 W W.heap.size x.a x.cycles ∧ (x.a = none → x.c = 0) := by
  obtain ⟨cs, rfl, hsz⟩ := okWide_struct Tryz.underlying28 hv
  obtain ⟨fuel, hf0⟩ := h
  have hC : Tryz.prog.cellsOf 28 = 11 := by kernel_rfl
  obtain ⟨ys, n', hn', hy, hlen, hyl, hf⟩ := DataW.trod_struct Tryz.underlying28 hf0
  have q0 : DataW.trod enc Tryz.prog W 0 (fun _ => true) true n' 22 (((Value.agg cs).cells.toList.drop 0).take (Tryz.prog.cellsOf 22)) = ys[0]? := hf 0 _ rfl
  have q1 : DataW.trod enc Tryz.prog W 0 (fun _ => true) true n' 24 (((Value.agg cs).cells.toList.drop 1).take (Tryz.prog.cellsOf 24)) = ys[1]? := hf 1 _ rfl
  have q2 : DataW.trod enc Tryz.prog W 0 (fun _ => true) true n' 26 (((Value.agg cs).cells.toList.drop 4).take (Tryz.prog.cellsOf 26)) = ys[2]? := hf 2 _ rfl
  simp only [Value.cells] at hlen q0 q1 q2
  have k0 : Tryz.prog.cellsOf 22 = 1 := by kernel_rfl
  have k1 : Tryz.prog.cellsOf 24 = 3 := by kernel_rfl
  have k2 : Tryz.prog.cellsOf 26 = 7 := by kernel_rfl
  rw [hC] at hlen
  rw [k0] at q0; rw [k1] at q1; rw [k2] at q2
  have y0 : ∃ z, ys[0]? = some z := ⟨_, List.getElem?_eq_getElem (by rw [hyl]; decide)⟩
  have y1 : ∃ z, ys[1]? = some z := ⟨_, List.getElem?_eq_getElem (by rw [hyl]; decide)⟩
  have y2 : ∃ z, ys[2]? = some z := ⟨_, List.getElem?_eq_getElem (by rw [hyl]; decide)⟩
  obtain ⟨z0, y0⟩ := y0
  obtain ⟨z1, y1⟩ := y1
  obtain ⟨z2, y2⟩ := y2
  rw [y0] at q0; rw [y1] at q1; rw [y2] at q2
  obtain ⟨l⟩ := cs
  match l, hlen with
  | [v0, v1, v2, v3, v4, v5, v6, v7, v8, v9, v10], _ =>
    simp only [List.drop_zero, List.drop_succ_cons, List.take_succ_cons, List.take_zero] at q0 q1 q2
    obtain ⟨A, c, l, e0, s0, n0⟩ := open_cycs q0
    obtain ⟨xs, e1, e2⟩ := open_nint Tryz.underlying24 (by kernel_rfl) (by kernel_rfl) q1 rfl
    obtain ⟨xl, e3, e4⟩ := open_nint Tryz.underlying26 (by kernel_rfl) (by kernel_rfl) q2 rfl
    match xs, e1 with
    | [a, b, u], _ =>
      match xl, e3 with
      | [d, p, f, m, y, s, k], _ =>
        simp only [List.map_cons, List.map_nil, List.cons.injEq, and_true] at e0 e2 e4
        obtain ⟨rfl, rfl, rfl⟩ := e2
        obtain ⟨rfl, rfl, rfl, rfl, rfl, rfl, rfl⟩ := e4
        subst e0
        exact ⟨⟨A, c, l, ⟨a, b, u⟩, ⟨d, p, f, m, y, s, k⟩⟩, rfl, s0, n0⟩
end
end Go.Proofs.YtfbnllmmoaialaaGreat
namespace Go.Proofs.YtfbnllmmoaialaaGreat
open Go.RowKit Go.ChangeShapes Go.WideShapes Go.ChangeAt Go.Deep
section
variable {H : Type} {enc : TypeId × Value → H} {w : World} {base : Nat} {spare : Nat → Bool} {held : Bool}
theorem open_pair {n : Nat} {x0 x1 : Value} {y : DataW H × List MemPlace} (h : DataW.trod enc Tryz.prog w base spare held n 67 [x0, x1] = some y) : ∃ a b : Int, x0 = .int .i64 a ∧ x1 = .int .i64 b := by
  have hu : Tryz.prog.underlying 67 = some (.array 2 3) := by kernel_rfl
  have hC1 : Tryz.prog.cellsOf 3 = 1 := by kernel_rfl
  obtain ⟨xs, m, _, _, hl, hxl, hi⟩ := DataW.trod_array hu h
  have t0 := hi 0 (by omega); have t1 := hi 1 (by omega)
  rw [hC1, List.getElem?_eq_getElem (by omega)] at t0 t1
  simp at t0 t1
  obtain ⟨a, ha, _⟩ := DataW.trod_int (show Tryz.prog.underlying _ = some (.int .i64) by kernel_rfl) t0
  obtain ⟨b, hb, _⟩ := DataW.trod_int (show Tryz.prog.underlying _ = some (.int .i64) by kernel_rfl) t1
  simp only [List.cons.injEq, and_true] at ha hb
  exact ⟨a, b, ha, hb⟩
end
end Go.Proofs.YtfbnllmmoaialaaGreat
namespace Go.Proofs.YtfbnllmmoaialaaGreat
open Go.RowKit

theorem rin_any (n a b : Int) (w : World) : Calls Tryz.prog 31 #[.int .i64 n, .int .i64 a, .int .i64 b] w fun e w' => e = .returned (.bool (inB n a b)) ∧ w = w' := by
  by_cases h : a ≤ n
  · have h' : decide (a ≤ n) = true := by simpa using h
    by_cases h2 : n ≤ b
    · have h2' : decide (n ≤ b) = true := by simpa using h2
      go_enter Tryz.func31, Tryz.ntmps31
      go_wp2
      go_ret
      exact ⟨by simp [inB, h, h2], rfl⟩
    · have h2' : decide (n ≤ b) = false := by simpa using h2
      go_enter Tryz.func31, Tryz.ntmps31
      go_wp2
      go_ret
      exact ⟨by simp [inB, h2], rfl⟩
  · have h' : decide (a ≤ n) = false := by simpa using h
    go_enter Tryz.func31, Tryz.ntmps31
    go_wp2
    go_ret
    exact ⟨by simp [inB]; omega, rfl⟩
theorem rin_val {n a b : Int} {v : Bool} (h : inB n a b = v) (w : World) : Calls Tryz.prog 31 #[.int .i64 n, .int .i64 a, .int .i64 b] w fun e w' => e = .returned (.bool v) ∧ w = w' := h ▸ rin_any n a b w
theorem rday_any (n : Int) (w : World) : Calls Tryz.prog 30 #[.int .i64 n] w fun e w' => e = .returned (.bool (inB n 0 1000000)) ∧ w = w' := by
  go_enter Tryz.func30, Tryz.ntmps30
  go_wp2_with (go_at_call 31; refine (rin_any _ _ _ _).mono ?_; rintro _ _ ⟨rfl, rfl⟩)
  go_ret
  exact ⟨rfl, rfl⟩
theorem rcycle_any (l s : Int) (w : World) : Calls Tryz.prog 53 #[.agg #[.int .i64 l, .int .i64 s]] w fun e w' => e = .returned (.bool (cycB ⟨l, s⟩)) ∧ Below w.heap.size w w' := by
  cases h : inB l 1 64 with
  | true =>
    have hb := inB_iff.1 h
    have HW := Lib.hid (fun W => rin_val h W)
    have HT : Hid (cycB ⟨l, s⟩ = inB s 0 (l - 1)) := (by simp [cycB, h] : cycB ⟨l, s⟩ = inB s 0 (l - 1))
    clear h
    go_enter Tryz.func53, Tryz.ntmps53
    go_wp2_with (first | (go_at_call 31; (with_reducible refine (HW.out _).mono ?_); rintro _ _ ⟨rfl, rfl⟩) | (go_at_call 31; refine (rin_any _ _ _ _).mono ?_; rintro _ _ ⟨rfl, rfl⟩))
    go_ret
    exact ⟨ret_bool HT.out.symm, by (repeat (first | exact Below.refl _ _ | assumption | (refine Below.alloc ?_ (by first | omega | (simp; omega) | (simp; done)) _) | (refine Below.setCell ?_ (by first | omega | (simp; omega) | (simp; done)) _) | (refine Below.drew ?_) | (refine belowN ?_ _) | (refine Below.trans ?_ (Below.mono ‹Below _ _ _› (by first | omega | (simp; omega) | (simp; done))))))⟩
  | false =>
    have HW := Lib.hid (fun W => rin_val h W)
    have HT : Hid (cycB ⟨l, s⟩ = false) := (by simp [cycB, h] : cycB ⟨l, s⟩ = false)
    clear h
    go_enter Tryz.func53, Tryz.ntmps53
    go_wp2_with (go_at_call 31; (with_reducible refine (HW.out _).mono ?_); rintro _ _ ⟨rfl, rfl⟩)
    go_ret
    exact ⟨ret_bool HT.out.symm, by (repeat (first | exact Below.refl _ _ | assumption | (refine Below.alloc ?_ (by first | omega | (simp; omega) | (simp; done)) _) | (refine Below.setCell ?_ (by first | omega | (simp; omega) | (simp; done)) _) | (refine Below.drew ?_) | (refine belowN ?_ _) | (refine Below.trans ?_ (Below.mono ‹Below _ _ _› (by first | omega | (simp; omega) | (simp; done))))))⟩
theorem rsolar_any (e b u : Int) (w : World) : Calls Tryz.prog 54 #[.agg #[.int .i64 e, .int .i64 b, .int .i64 u]] w fun en w' => en = .returned (.bool (solB ⟨e, b, u⟩)) ∧ Below w.heap.size w w' := by
  cases h1 : inB e 0 100000 with
  | true =>
    have H1 := Lib.hid (fun W => rin_val h1 W)
    cases h2 : inB b 0 100000 with
    | true =>
      have H2 := Lib.hid (fun W => rin_val h2 W)
      have HT : Hid (solB ⟨e, b, u⟩ = inB u 0 100000) := (by simp [solB, h1, h2] : solB ⟨e, b, u⟩ = _)
      clear h1 h2
      by_cases hbb : b = e
      · subst hbb
        go_enter Tryz.func54, Tryz.ntmps54
        go_wp2_with (first | (go_at_call 31; (with_reducible refine (H1.out _).mono ?_); rintro _ _ ⟨rfl, rfl⟩) | (go_at_call 31; (with_reducible refine (H2.out _).mono ?_); rintro _ _ ⟨rfl, rfl⟩) | (go_at_call 31; refine (rin_any _ _ _ _).mono ?_; rintro _ _ ⟨rfl, rfl⟩))
        go_ret
        exact ⟨ret_bool HT.out.symm, by (repeat (first | exact Below.refl _ _ | assumption | (refine Below.alloc ?_ (by first | omega | (simp; omega) | (simp; done)) _) | (refine Below.setCell ?_ (by first | omega | (simp; omega) | (simp; done)) _) | (refine Below.drew ?_) | (refine belowN ?_ _) | (refine Below.trans ?_ (Below.mono ‹Below _ _ _› (by first | omega | (simp; omega) | (simp; done))))))⟩
      · go_enter Tryz.func54, Tryz.ntmps54
        go_wp2_with (first | (go_at_call 31; (with_reducible refine (H1.out _).mono ?_); rintro _ _ ⟨rfl, rfl⟩) | (go_at_call 31; (with_reducible refine (H2.out _).mono ?_); rintro _ _ ⟨rfl, rfl⟩) | (go_at_call 31; refine (rin_any _ _ _ _).mono ?_; rintro _ _ ⟨rfl, rfl⟩))
        go_ret
        exact ⟨ret_bool HT.out.symm, by (repeat (first | exact Below.refl _ _ | assumption | (refine Below.alloc ?_ (by first | omega | (simp; omega) | (simp; done)) _) | (refine Below.setCell ?_ (by first | omega | (simp; omega) | (simp; done)) _) | (refine Below.drew ?_) | (refine belowN ?_ _) | (refine Below.trans ?_ (Below.mono ‹Below _ _ _› (by first | omega | (simp; omega) | (simp; done))))))⟩
    | false =>
      have H2 := Lib.hid (fun W => rin_val h2 W)
      have HT : Hid (solB ⟨e, b, u⟩ = false) := (by simp [solB, h1, h2] : solB ⟨e, b, u⟩ = _)
      clear h1 h2
      go_enter Tryz.func54, Tryz.ntmps54
      go_wp2_with (first | (go_at_call 31; (with_reducible refine (H1.out _).mono ?_); rintro _ _ ⟨rfl, rfl⟩) | (go_at_call 31; (with_reducible refine (H2.out _).mono ?_); rintro _ _ ⟨rfl, rfl⟩) | (go_at_call 31; refine (rin_any _ _ _ _).mono ?_; rintro _ _ ⟨rfl, rfl⟩))
      go_ret
      exact ⟨ret_bool HT.out.symm, by (repeat (first | exact Below.refl _ _ | assumption | (refine Below.alloc ?_ (by first | omega | (simp; omega) | (simp; done)) _) | (refine Below.setCell ?_ (by first | omega | (simp; omega) | (simp; done)) _) | (refine Below.drew ?_) | (refine belowN ?_ _) | (refine Below.trans ?_ (Below.mono ‹Below _ _ _› (by first | omega | (simp; omega) | (simp; done))))))⟩
  | false =>
    have H1 := Lib.hid (fun W => rin_val h1 W)
    have HT : Hid (solB ⟨e, b, u⟩ = false) := (by simp [solB, h1] : solB ⟨e, b, u⟩ = _)
    clear h1
    go_enter Tryz.func54, Tryz.ntmps54
    go_wp2_with (first | (go_at_call 31; (with_reducible refine (H1.out _).mono ?_); rintro _ _ ⟨rfl, rfl⟩) | (go_at_call 31; (with_reducible refine (H2.out _).mono ?_); rintro _ _ ⟨rfl, rfl⟩) | (go_at_call 31; refine (rin_any _ _ _ _).mono ?_; rintro _ _ ⟨rfl, rfl⟩))
    go_ret
    exact ⟨ret_bool HT.out.symm, by (repeat (first | exact Below.refl _ _ | assumption | (refine Below.alloc ?_ (by first | omega | (simp; omega) | (simp; done)) _) | (refine Below.setCell ?_ (by first | omega | (simp; omega) | (simp; done)) _) | (refine Below.drew ?_) | (refine belowN ?_ _) | (refine Below.trans ?_ (Below.mono ‹Below _ _ _› (by first | omega | (simp; omega) | (simp; done))))))⟩
theorem rday_val {n : Int} {v : Bool} (h : inB n 0 1000000 = v) (w : World) : Calls Tryz.prog 30 #[.int .i64 n] w fun e w' => e = .returned (.bool v) ∧ w = w' := h ▸ rday_any n w
theorem rcycle_val {l s : Int} {v : Bool} (h : cycB ⟨l, s⟩ = v) (w : World) : Calls Tryz.prog 53 #[.agg #[.int .i64 l, .int .i64 s]] w fun e w' => e = .returned (.bool v) ∧ Below w.heap.size w w' := h ▸ rcycle_any l s w
theorem rsolar_val {e b u : Int} {v : Bool} (h : solB ⟨e, b, u⟩ = v) (w : World) : Calls Tryz.prog 54 #[.agg #[.int .i64 e, .int .i64 b, .int .i64 u]] w fun en w' => en = .returned (.bool v) ∧ Below w.heap.size w w' := h ▸ rsolar_any e b u w
theorem pos_tmod {l s d : Int} (h : cycB ⟨l, s⟩ = true) (h0 : 0 ≤ d) : (0 ≤ d - s → (d - s).tmod l = posI ⟨l, s⟩ d) ∧ (d - s < 0 → (d - s).tmod l = d - s ∧ d - s + l = posI ⟨l, s⟩ d) := by
  obtain ⟨⟨l1, l2⟩, s1, s2⟩ := cycB_iff.1 h
  simp only at l1 l2 s1 s2
  unfold posI
  simp only
  refine ⟨fun hp => ?_, fun hn => ⟨?_, ?_⟩⟩
  · rw [Int.tmod_eq_emod_of_nonneg hp, Int.add_emod_right]
  · have h1 := Int.neg_tmod (s - d) l
    rw [show -(s - d) = d - s by omega] at h1
    rw [h1, Int.tmod_eq_emod_of_nonneg (by omega), Int.emod_eq_of_lt (by omega) (by omega)]
    omega
  · rw [Int.emod_eq_of_lt (by omega) (by omega)]
theorem posI_bd {c : Cyc} (h : cycB c = true) (d : Int) : 0 ≤ posI c d ∧ posI c d ≤ c.l - 1 := by
  obtain ⟨⟨l1, l2⟩, s1, s2⟩ := cycB_iff.1 h
  have h1 := Int.emod_nonneg (d - c.s + c.l) (show c.l ≠ 0 by omega)
  have h2 := Int.emod_lt_of_pos (d - c.s + c.l) (show 0 < c.l by omega)
  unfold posI
  omega
theorem rposition_any (l s d : Int) (w : World) (h : cycB ⟨l, s⟩ = true) (h0 : 0 ≤ d) (h1 : d ≤ 2000000) : Calls Tryz.prog 101 #[.agg #[.int .i64 l, .int .i64 s], .int .i64 d] w fun e w' => e = .returned (.int .i64 (posI ⟨l, s⟩ d)) ∧ Below w.heap.size w w' := by
  obtain ⟨⟨l1, l2⟩, s1, s2⟩ := cycB_iff.1 h
  simp only at l1 l2 s1 s2
  obtain ⟨t1, t2⟩ := pos_tmod h h0
  have bd := posI_bd h d
  simp only at bd
  obtain ⟨x, hx⟩ : ∃ x, x = posI ⟨l, s⟩ d := ⟨_, rfl⟩
  rw [← hx] at t1 t2 bd ⊢
  have w1 : IntKind.i64.wrap (d - s) = d - s := IntWalk.i64_in _ ⟨by omega, by omega⟩
  have l0 : (l == 0) = false := by simp; omega
  clear hx h
  by_cases hp : 0 ≤ d - s
  · have e1 := t1 hp
    have e2 : IntKind.i64.wrap ((d - s).tmod l) = x := by rw [e1]; exact IntWalk.i64_in _ ⟨by omega, by omega⟩
    have c1 : decide (0 ≤ x) = true := by simp; omega
    have e5 : (d - s) % l = x := by rw [← e1, Int.tmod_eq_emod_of_nonneg hp]
    clear t1 t2 e2
    go_enter Tryz.func101, Tryz.ntmps101
    go_wp2
    go_ret
    exact ⟨rfl, by (repeat (first | exact Below.refl _ _ | assumption | (refine Below.alloc ?_ (by first | omega | (simp; omega) | (simp; done)) _) | (refine Below.setCell ?_ (by first | omega | (simp; omega) | (simp; done)) _) | (refine Below.drew ?_) | (refine belowN ?_ _) | (refine Below.trans ?_ (Below.mono ‹Below _ _ _› (by first | omega | (simp; omega) | (simp; done))))))⟩
  · obtain ⟨e1, e3⟩ := t2 (by omega)
    have e2 : IntKind.i64.wrap ((d - s).tmod l) = d - s := by rw [e1]; exact w1
    have c1 : decide (0 ≤ d - s) = false := by simp; omega
    have e4 : IntKind.i64.wrap (d - s + l) = x := by rw [e3]; exact IntWalk.i64_in _ ⟨by omega, by omega⟩
    have c2 : ¬ (0 ≤ d - s) := hp
    clear t1 t2 e2 e3
    go_enter Tryz.func101, Tryz.ntmps101
    go_wp2
    go_ret
    exact ⟨rfl, by (repeat (first | exact Below.refl _ _ | assumption | (refine Below.alloc ?_ (by first | omega | (simp; omega) | (simp; done)) _) | (refine Below.setCell ?_ (by first | omega | (simp; omega) | (simp; done)) _) | (refine Below.drew ?_) | (refine belowN ?_ _) | (refine Below.trans ?_ (Below.mono ‹Below _ _ _› (by first | omega | (simp; omega) | (simp; done))))))⟩
end Go.Proofs.YtfbnllmmoaialaaGreat

/- almanac: the reference's Of, Holds. -/
import Derived.Test.YtfbnllmmoaialaaZ25RfI
import Derived.Test.YtfbnllmmoaialaaZ26RfD
import Derived.Test.YtfbnllmmoaialaaB14As
import Derived.Test.YtfbnllmmoaialaaB16ItZ
namespace Go.Proofs.Ytfbnllmmoaialaa
open Go.RowKit

/-- a day with its dates -/
abbrev datesV (day : Int) (a : SDate) (b : LDate) : Array Value := #[.int .i64 day, .int .i64 a.y, .int .i64 a.m, .int .i64 a.d, .int .i64 b.y, .int .i64 b.m, .int .i64 b.d, .bool b.k]
theorem blk8 {W : World} {b t : Nat} {x0 x1 x2 x3 x4 x5 x6 x7 : Value} (h : Blk W b #[x0, x1, x2, x3, x4, x5, x6, x7] t) (y0 y1 y2 y3 y4 y5 y6 y7 : Value) : Blk ((((((((W.setCell ⟨b, 0, none⟩ y0).setCell ⟨b, 1, none⟩ y1).setCell ⟨b, 2, none⟩ y2).setCell ⟨b, 3, none⟩ y3).setCell ⟨b, 4, none⟩ y4).setCell ⟨b, 5, none⟩ y5).setCell ⟨b, 6, none⟩ y6).setCell ⟨b, 7, none⟩ y7) b #[y0, y1, y2, y3, y4, y5, y6, y7] t := by
  have := (((((((h.set 0 y0).set 1 y1).set 2 y2).set 3 y3).set 4 y4).set 5 y5).set 6 y6).set 7 y7
  simpa using this
theorem below8 {n b : Nat} {W0 W : World} {y0 y1 y2 y3 y4 y5 y6 y7 : Value} (h : Below n W0 W) (hb : n ≤ b) : Below n W0 ((((((((W.setCell ⟨b, 0, none⟩ y0).setCell ⟨b, 1, none⟩ y1).setCell ⟨b, 2, none⟩ y2).setCell ⟨b, 3, none⟩ y3).setCell ⟨b, 4, none⟩ y4).setCell ⟨b, 5, none⟩ y5).setCell ⟨b, 6, none⟩ y6).setCell ⟨b, 7, none⟩ y7) :=
  (((((((h.setCell (p := ⟨b, 0, none⟩) hb _).setCell (p := ⟨b, 1, none⟩) hb _).setCell (p := ⟨b, 2, none⟩) hb _).setCell (p := ⟨b, 3, none⟩) hb _).setCell (p := ⟨b, 4, none⟩) hb _).setCell (p := ⟨b, 5, none⟩) hb _).setCell (p := ⟨b, 6, none⟩) hb _).setCell (p := ⟨b, 7, none⟩) hb _
theorem rdate_v {e b u day xa xb xc : Int} (h : solI ⟨e, b, u⟩ day = ⟨xa, xb, xc⟩) (ok : SolOk ⟨e, b, u⟩) (d0 : 0 ≤ day) (d1 : day ≤ 1000000) (w : World) : Calls Try.prog 45 #[.agg #[.int .i64 e, .int .i64 b, .int .i64 u], .int .i64 day] w fun en w' => en = .returned (.agg #[.int .i64 xa, .int .i64 xb, .int .i64 xc]) ∧ Below w.heap.size w w' := by
  have h2 := rdate_any e b u day w ok d0 d1
  rw [h] at h2
  exact h2
theorem rmoon_v {d p f m y s l day xa xb xc : Int} {xk : Bool} (h : moonI ⟨d, p, f, m, y, s, l⟩ day = ⟨xa, xb, xc, xk⟩) (hs : lunB ⟨d, p, f, m, y, s, l⟩ = true) (d0 : 0 ≤ day) (d1 : day ≤ 1000000) (w : World) : Calls Try.prog 50 #[.agg #[.int .i64 d, .int .i64 p, .int .i64 f, .int .i64 m, .int .i64 y, .int .i64 s, .int .i64 l], .int .i64 day] w fun en w' => en = .returned (.agg #[.int .i64 xa, .int .i64 xb, .int .i64 xc, .bool xk]) ∧ Below w.heap.size w w' := by
  have h2 := rmoon_any d p f m y s l day w hs d0 d1
  rw [h] at h2
  exact h2
set_option maxRecDepth 100000 in
set_option maxHeartbeats 4000000 in
theorem rof_any (x : Alm) (day : Int) (w : World) (hx : almB x = true) (d0 : 0 ≤ day) (d1 : day ≤ 1000000) :
    Calls Try.prog 40 #[.agg x.cells.toArray, .int .i64 day] w fun e w' => e = .returned (.agg (datesV day (solI x.sol day) (moonI x.lun day))) ∧ Below w.heap.size w w' := by
  obtain ⟨A, c, l, ⟨e, b, u⟩, ⟨d, p, f, m, y, s, k⟩⟩ := x
  simp only [almB, Bool.and_eq_true, decide_eq_true_eq, List.all_eq_true] at hx
  obtain ⟨⟨-, hs⟩, hlu⟩ := hx
  simp only
  obtain ⟨⟨xa, xb, xc⟩, hso⟩ : ∃ z, solI ⟨e, b, u⟩ day = z := ⟨_, rfl⟩
  obtain ⟨⟨ya, yb, yc, yk⟩, hmo⟩ : ∃ z, moonI ⟨d, p, f, m, y, s, k⟩ day = z := ⟨_, rfl⟩
  rw [hso, hmo]
  have HS := Lib.hid (fun W => rdate_v hso (solB_iff.1 hs) d0 d1 W)
  have HM := Lib.hid (fun W => rmoon_v hmo hlu d0 d1 W)
  clear hso hmo hs hlu
  simp only [Alm.cells]
  go_enter Try.func40, Try.ntmps40
  go_upto_region 1 with fail
  refine gen_w (fun W => Blk W w.heap.size #[.slice A l.length c, .int .i64 e, .int .i64 b, .int .i64 u, .int .i64 d, .int .i64 p, .int .i64 f, .int .i64 m, .int .i64 y, .int .i64 s, .int .i64 k] 28 ∧ Blk W (w.heap.size + 1) #[.int .i64 0, .int .i64 0, .int .i64 0, .int .i64 0, .int .i64 0, .int .i64 0, .int .i64 0, .bool false] 79 ∧ Below w.heap.size w W) ⟨(Blk.at_ rfl).alloc _, Blk.at_ (by simp), by (repeat (first | exact Below.refl _ _ | assumption | (refine Below.alloc ?_ (by first | omega | (simp; omega) | (simp; done)) _) | (refine Below.setCell ?_ (by first | omega | (simp; omega) | (simp; done)) _) | (refine Below.drew ?_) | (refine belowN ?_ _) | (refine Below.trans ?_ (Below.mono ‹Below _ _ _› (by first | omega | (simp; omega) | (simp; done))))))⟩ ?_
  rintro V0 ⟨ga, g1, hw⟩
  (have z0 := ga.cell 0; have z1 := ga.cell 1; have z2 := ga.cell 2; have z3 := ga.cell 3; have z4 := ga.cell 4; have z5 := ga.cell 5; have z6 := ga.cell 6; have z7 := ga.cell 7; have z8 := ga.cell 8; have z9 := ga.cell 9; have z10 := ga.cell 10; simp at z0 z1 z2 z3 z4 z5 z6 z7 z8 z9 z10)
  refine wp_region_tail 10 (by kernel_rfl) (by kernel_rfl) ?_
  simp only [List.take_succ_cons, List.take_zero, List.drop_succ_cons, List.drop_zero]
  (repeat (go_big_quiet_step (first | (go_at_call 45; with_reducible exact Calls.ext_of (HS.out _)) | (go_at_call 50; with_reducible exact Calls.ext_of (HM.out _)))))
  with_reducible refine wpQuiet_nil ?_
  intro w3 hw3
  have hb3 := ext_below hw3
  clear hw3
  have hw := bl2 hw hb3
  have g1 := g1.below hb3 g1.lt
  have f0 := g1.free 0; have f1 := g1.free 1; have f2 := g1.free 2; have f3 := g1.free 3; have f4 := g1.free 4; have f5 := g1.free 5; have f6 := g1.free 6; have f7 := g1.free 7
  have k0 := g1.cell 0; have k1 := g1.cell 1; have k2 := g1.cell 2; have k3 := g1.cell 3; have k4 := g1.cell 4; have k5 := g1.cell 5; have k6 := g1.cell 6; have k7 := g1.cell 7
  simp at k0 k1 k2 k3 k4 k5 k6 k7
  go_wp2_with fail
  have g3 := blk8 g1 (.int .i64 day) (.int .i64 xa) (.int .i64 xb) (.int .i64 xc) (.int .i64 ya) (.int .i64 yb) (.int .i64 yc) (.bool yk)
  have hw3 := below8 (b := w.heap.size + 1) (y0 := .int .i64 day) (y1 := .int .i64 xa) (y2 := .int .i64 xb) (y3 := .int .i64 xc) (y4 := .int .i64 ya) (y5 := .int .i64 yb) (y6 := .int .i64 yc) (y7 := .bool yk) hw (by omega)
  generalize (((((((w3.setCell ⟨w.heap.size + 1, 0, none⟩ (.int .i64 day)).setCell ⟨w.heap.size + 1, 1, none⟩ (.int .i64 xa)).setCell ⟨w.heap.size + 1, 2, none⟩ (.int .i64 xb)).setCell ⟨w.heap.size + 1, 3, none⟩ (.int .i64 xc)).setCell ⟨w.heap.size + 1, 4, none⟩ (.int .i64 ya)).setCell ⟨w.heap.size + 1, 5, none⟩ (.int .i64 yb)).setCell ⟨w.heap.size + 1, 6, none⟩ (.int .i64 yc)).setCell ⟨w.heap.size + 1, 7, none⟩ (.bool yk) = W3 at g3 hw3 ⊢
  have q0 := g3.cell 0; have q1 := g3.cell 1; have q2 := g3.cell 2; have q3 := g3.cell 3; have q4 := g3.cell 4; have q5 := g3.cell 5; have q6 := g3.cell 6; have q7 := g3.cell 7
  simp at q0 q1 q2 q3 q4 q5 q6 q7
  refine bodyPost_ret (v := .agg #[.int .i64 day, .int .i64 xa, .int .i64 xb, .int .i64 xc, .int .i64 ya, .int .i64 yb, .int .i64 yc, .bool yk]) (by simp [results, Try.results40, go_sem, q0, q1, q2, q3, q4, q5, q6, q7]) rfl ?_
  exact ⟨rfl, hw3⟩
set_option maxRecDepth 100000 in
set_option maxHeartbeats 4000000 in
theorem rholds_any (x : Alm) (t : DTs) (day : Int) (w : World) (hx : almB x = true) (d0 : 0 ≤ day) (d1 : day ≤ 1000000) (hst : 0 ≤ t.set ∧ t.set < 18446744073709551616) (hT : tstB x.cycles t = true) (hcx : Sl Cyc.cells 2 w w.heap.size x.a x.cycles) :
    Calls Try.prog 77 #[.agg x.cells.toArray, tval t, .agg (datesV day (solI x.sol day) (moonI x.lun day))] w fun e w' => e = .returned (.bool (holdB x t day)) ∧ Below w.heap.size w w' := by
  have hX := hx
  obtain ⟨A, c, l, ⟨e, b, u⟩, ⟨d, p, f, m, y, s, k⟩⟩ := x
  obtain ⟨kd, wh, st, fr, to_⟩ := t
  simp only [almB, Bool.and_eq_true, decide_eq_true_eq, List.all_eq_true] at hx
  obtain ⟨⟨⟨-, hc⟩, hs⟩, hlu⟩ := hx
  simp only at hcx hT hst
  have HCX := Lib.hid hcx
  have hsb := solI_bd (solB_iff.1 hs) d0 d1
  have hmb := moonI_bd (lunB_iff.1 hlu) (d := day)
  have HH : ∀ v, v = holdB ⟨A, c, l, ⟨e, b, u⟩, ⟨d, p, f, m, y, s, k⟩⟩ ⟨kd, wh, st, fr, to_⟩ day → v = (if kd = 1 then (match l[wh.toNat]? with | some c => bitB st (posI c day).toNat | none => false)
    else if kd = 2 then bitB st (solI ⟨e, b, u⟩ day).m.toNat
    else if kd = 3 then bitB st (solI ⟨e, b, u⟩ day).d.toNat
    else if kd = 4 then bitB st (moonI ⟨d, p, f, m, y, s, k⟩ day).m.toNat
    else if kd = 5 then bitB st (moonI ⟨d, p, f, m, y, s, k⟩ day).d.toNat
    else if kd = 6 then (moonI ⟨d, p, f, m, y, s, k⟩ day).k
    else inB day fr to_) := fun v hv => hv.trans rfl
  obtain ⟨hv, hve⟩ : ∃ v, v = holdB ⟨A, c, l, ⟨e, b, u⟩, ⟨d, p, f, m, y, s, k⟩⟩ ⟨kd, wh, st, fr, to_⟩ day := ⟨_, rfl⟩
  have hH := HH hv hve
  rw [← hve]
  clear hve HH
  obtain ⟨⟨sy, sm, sd⟩, hso⟩ : ∃ z, z = solI ⟨e, b, u⟩ day := ⟨_, rfl⟩
  obtain ⟨⟨my, mm, md, mk⟩, hmo⟩ : ∃ z, z = moonI ⟨d, p, f, m, y, s, k⟩ day := ⟨_, rfl⟩
  rw [← hso] at hsb hH
  rw [← hmo] at hmb hH
  simp only
  rw [← hso, ← hmo]
  simp only at hsb hmb hH
  have HH := Lib.hid hH
  have HTT := Lib.hid hT
  have HCC := Lib.hid hc
  clear hso hmo hs hlu hX hH hT hc hcx
  obtain ⟨S, rfl⟩ := Int.eq_ofNat_of_zero_le hst.1
  have hS : S < 18446744073709551616 := by omega
  clear hst
  simp only [Alm.cells]
  go_enter Try.func77, Try.ntmps77
  go_upto_region 1 with fail
  refine gen_w (fun W => Blk W w.heap.size #[.slice A l.length c, .int .i64 e, .int .i64 b, .int .i64 u, .int .i64 d, .int .i64 p, .int .i64 f, .int .i64 m, .int .i64 y, .int .i64 s, .int .i64 k] 28 ∧ Blk W (w.heap.size + 1) #[.int .i64 kd, .int .i64 wh, .int .u64 S, .int .i64 fr, .int .i64 to_] 126 ∧ Blk W (w.heap.size + 1 + 1) #[.int .i64 day, .int .i64 sy, .int .i64 sm, .int .i64 sd, .int .i64 my, .int .i64 mm, .int .i64 md, .bool mk] 79 ∧ Below w.heap.size w W) ⟨((Blk.at_ rfl).alloc _).alloc _, (Blk.at_ (by simp)).alloc _, Blk.at_ (by simp), by (repeat (first | exact Below.refl _ _ | assumption | (refine Below.alloc ?_ (by first | omega | (simp; omega) | (simp; done)) _) | (refine Below.setCell ?_ (by first | omega | (simp; omega) | (simp; done)) _) | (refine Below.drew ?_) | (refine belowN ?_ _) | (refine Below.trans ?_ (Below.mono ‹Below _ _ _› (by first | omega | (simp; omega) | (simp; done))))))⟩ ?_
  rintro V0 ⟨ga, gt, gd, hw⟩
  have z0 := ga.cell 0
  have t0 := gt.cell 0; have t1 := gt.cell 1; have t2 := gt.cell 2; have t3 := gt.cell 3; have t4 := gt.cell 4
  have s0 := gd.cell 0; have s1 := gd.cell 1; have s2 := gd.cell 2; have s3 := gd.cell 3; have s4 := gd.cell 4; have s5 := gd.cell 5; have s6 := gd.cell 6; have s7 := gd.cell 7
  simp at z0 t0 t1 t2 t3 t4 s0 s1 s2 s3 s4 s5 s6 s7
  by_cases k1 : kd = 1
  · subst k1
    have hin : inB wh 0 ((l.length : Int) - 1) = true := by
      have h := HTT.out
      simp only [tstB, if_true, Bool.and_eq_true] at h
      exact h.1.1.1
    obtain ⟨i0, i1⟩ := inB_iff.1 hin
    obtain ⟨j, rfl⟩ := Int.eq_ofNat_of_zero_le i0
    have hj : j < l.length := by omega
    obtain ⟨ab, ao, rfl, hblk, hcell⟩ := (HCX.out.below hw).at_ (k := j) (fun _ => rfl) hj
    have hcy := HCC.out _ (List.getElem_mem hj)
    have HT0 : Hid (hv = bitB (S : Int) (posI l[j] day).toNat) := (by
      rw [HH.out]; simp only [if_true, Int.toNat_natCast, List.getElem?_eq_getElem hj] : hv = _)
    obtain ⟨q, hq⟩ : ∃ q, q = l[j] := ⟨_, rfl⟩
    rw [← hq] at hcell hcy HT0
    obtain ⟨ql, qs⟩ := q
    have e0 : V0.cell? ⟨ab, ao + j * 2, none⟩ = some (.int .i64 ql) := hcell 0 _ rfl
    have e1 : V0.cell? ⟨ab, ao + j * 2 + 1, none⟩ = some (.int .i64 qs) := hcell 1 _ rfl
    have HP := Lib.hid (fun W => rposition_any ql qs day W hcy d0 (by omega))
    have hpb := posI_bd hcy day
    obtain ⟨⟨l1, l2⟩, -⟩ := cycB_iff.1 hcy
    simp only at hpb l1 l2
    obtain ⟨P, hP⟩ : ∃ P, P = posI ⟨ql, qs⟩ day := ⟨_, rfl⟩
    rw [← hP] at HP hpb HT0
    obtain ⟨n, rfl⟩ := Int.eq_ofNat_of_zero_le hpb.1
    have j0 : (0 : Int) ≤ (j : Int) := by omega
    have j1 : (j : Int) < (l.length : Int) := by omega
    have hn64 : n < 64 := by omega
    have q1 := u64bit S n hS
    have HT : Hid (hv = (((S / 2 ^ n % 2 : Nat) : Int) == 1)) := (by rw [HT0.out, Int.toNat_natCast]; exact setB_bit : hv = _)
    clear hcell hq hcy hP HT0
    go_upto_region 5 with fail
    (refine wp_region_ext (by kernel_rfl) (by kernel_rfl) ?_; (repeat (go_big_quiet_step((go_at_call 29; with_reducible exact Calls.ext_of (HP.out _))))); with_reducible refine wpQuiet_nil ?_; intro w1 hw1; have hb1 := ext_below hw1; clear hw1)
    have hw := bl2 hw hb1
    have gt := gt.below hb1 gt.lt
    have t2 := gt.cell 2
    simp at t2
    go_wp2_with fail
    go_ret
    exact ⟨ret_bool HT.out.symm, hw⟩
  · have n1 : (kd == 1) = false := by simpa using k1
    by_cases k2 : kd = 2
    · subst k2
      obtain ⟨n, rfl⟩ := Int.eq_ofNat_of_zero_le (show 0 ≤ sm by omega)
      have hn64 : n < 64 := by omega
      have q1 := u64bit S n hS
      have HT : Hid (hv = (((S / 2 ^ n % 2 : Nat) : Int) == 1)) := (by rw [HH.out]; simp only [Int.reduceEq, if_true, if_false, Int.toNat_natCast]; exact setB_bit : hv = _)
      go_wp2_with fail
      go_ret
      exact ⟨ret_bool HT.out.symm, hw⟩
    · have n2 : (kd == 2) = false := by simpa using k2
      by_cases k3 : kd = 3
      · subst k3
        obtain ⟨n, rfl⟩ := Int.eq_ofNat_of_zero_le (show 0 ≤ sd by omega)
        have hn64 : n < 64 := by omega
        have q1 := u64bit S n hS
        have HT : Hid (hv = (((S / 2 ^ n % 2 : Nat) : Int) == 1)) := (by rw [HH.out]; simp only [Int.reduceEq, if_true, if_false, Int.toNat_natCast]; exact setB_bit : hv = _)
        go_wp2_with fail
        go_ret
        exact ⟨ret_bool HT.out.symm, hw⟩
      · have n3 : (kd == 3) = false := by simpa using k3
        by_cases k4 : kd = 4
        · subst k4
          obtain ⟨n, rfl⟩ := Int.eq_ofNat_of_zero_le (show 0 ≤ mm by omega)
          have hn64 : n < 64 := by omega
          have q1 := u64bit S n hS
          have HT : Hid (hv = (((S / 2 ^ n % 2 : Nat) : Int) == 1)) := (by rw [HH.out]; simp only [Int.reduceEq, if_true, if_false, Int.toNat_natCast]; exact setB_bit : hv = _)
          go_wp2_with fail
          go_ret
          exact ⟨ret_bool HT.out.symm, hw⟩
        · have n4 : (kd == 4) = false := by simpa using k4
          by_cases k5 : kd = 5
          · subst k5
            obtain ⟨n, rfl⟩ := Int.eq_ofNat_of_zero_le (show 0 ≤ md by omega)
            have hn64 : n < 64 := by omega
            have q1 := u64bit S n hS
            have HT : Hid (hv = (((S / 2 ^ n % 2 : Nat) : Int) == 1)) := (by rw [HH.out]; simp only [Int.reduceEq, if_true, if_false, Int.toNat_natCast]; exact setB_bit : hv = _)
            go_wp2_with fail
            go_ret
            exact ⟨ret_bool HT.out.symm, hw⟩
          · have n5 : (kd == 5) = false := by simpa using k5
            by_cases k6 : kd = 6
            · subst k6
              have HT : Hid (hv = mk) := (by rw [HH.out]; simp : hv = mk)
              go_wp2_with fail
              go_ret
              exact ⟨ret_bool HT.out.symm, hw⟩
            · have n6 : (kd == 6) = false := by simpa using k6
              have HT : Hid (hv = inB day fr to_) := (by rw [HH.out, if_neg k1, if_neg k2, if_neg k3, if_neg k4, if_neg k5, if_neg k6] : hv = _)
              have HI := Lib.hid (fun W => rin_any day fr to_ W)
              obtain ⟨v, hv2⟩ : ∃ v, v = inB day fr to_ := ⟨_, rfl⟩
              rw [← hv2] at HI HT
              clear hv2 k1 k2 k3 k4 k5 k6
              go_wp2_with (go_at_call 65; (with_reducible refine (HI.out _).mono ?_); rintro _ _ ⟨rfl, rfl⟩)
              go_ret
              exact ⟨ret_bool HT.out.symm, hw⟩
end Go.Proofs.Ytfbnllmmoaialaa
namespace Go.Proofs.Ytfbnllmmoaialaa
open Go.RowKit

/-- the rules of persons can be read -/
structure PsA (W : World) (B : Nat) (A : Option Addr) (ps : List DPs) : Prop where
  len : ps.length ≤ 1000000
  sl : Sl DPs.cells 1 W B A ps
  rul : ∀ p ∈ ps, RlsAt W B p.a p.rules
theorem PsA.below {W W' : World} {B : Nat} {A : Option Addr} {l : List DPs} (h : PsA W B A l) (hb : Below B W W') : PsA W' B A l := ⟨h.len, h.sl.below hb, fun r hr => (h.rul r hr).below hb⟩
theorem PsA.more {W : World} {B B' : Nat} {A : Option Addr} {l : List DPs} (h : PsA W B A l) (hB : B ≤ B') : PsA W B' A l := ⟨h.len, h.sl.more hB, fun r hr => (h.rul r hr).more hB⟩
theorem lastTo_succ {p : DRl → Bool} {rs : List DRl} {n : Nat} (h : n < rs.length) : lastTo p rs (n + 1) = if p rs[n] then (n : Int) else lastTo p rs n := by
  simp only [lastTo, List.getElem?_eq_getElem h]
theorem tst_of_good {l : List Cyc} {r : DRl} (h : badR l r = false) : ∀ t ∈ r.when_, tstB l t = true := fun t ht => by
  unfold badR at h
  simp only [Bool.or_eq_false_iff, List.any_eq_false] at h
  simpa using h.2 t ht
set_option maxRecDepth 100000 in
set_option maxHeartbeats 4000000 in
theorem rdecides_any (x : Alm) (A2 : Option Addr) (c2 : Nat) (rs : List DRl) (day : Int) (w : World) (hx : almB x = true) (d0 : 0 ≤ day) (d1 : day ≤ 1000000) (hv : ∀ r ∈ rs, badR x.cycles r = false) (hcx : Sl Cyc.cells 2 w w.heap.size x.a x.cycles) (hr : RlsAt w w.heap.size A2 rs) :
    Calls Try.prog 39 #[.agg x.cells.toArray, .slice A2 rs.length c2, .agg (datesV day (solI x.sol day) (moonI x.lun day))] w fun e w' => e = .returned (.int .i64 (decI x rs day)) ∧ Below w.heap.size w w' := by
  have hlen := hr.len
  have HRL := Lib.hid hr
  have HHD := Lib.hid (fun (t : DTs) (W : World) (hW : Below w.heap.size w W) (hst : 0 ≤ t.set ∧ t.set < 18446744073709551616) (hT : tstB x.cycles t = true) => rholds_any x t day W hx d0 d1 hst hT ((hcx.below hW).more hW.size))
  have HAP : Hid (∀ r, applB x day r = r.when_.all fun t => holdB x t day) := (fun _ => rfl : ∀ r, applB x day r = r.when_.all fun t => holdB x t day)
  obtain ⟨H, hH⟩ : ∃ H : DTs → Bool, H = fun t => holdB x t day := ⟨_, rfl⟩
  have HH := Lib.hid hH
  have HHD2 : Hid (∀ (t : DTs) (W : World), Below w.heap.size w W → (0 ≤ t.set ∧ t.set < 18446744073709551616) → tstB x.cycles t = true → Calls Try.prog 77 #[.agg x.cells.toArray, tval t, .agg (datesV day (solI x.sol day) (moonI x.lun day))] W fun e w' => e = .returned (.bool (H t)) ∧ Below W.heap.size W w') := (fun t W h1 h2 h3 => by rw [hH]; exact HHD.out t W h1 h2 h3 : ∀ (t : DTs) (W : World), Below w.heap.size w W → (0 ≤ t.set ∧ t.set < 18446744073709551616) → tstB x.cycles t = true → Calls Try.prog 77 #[.agg x.cells.toArray, tval t, .agg (datesV day (solI x.sol day) (moonI x.lun day))] W fun e w' => e = .returned (.bool (H t)) ∧ Below W.heap.size W w')
  have HD : Hid (decI x rs day = lastTo (fun r => r.when_.all H) rs rs.length) := (by rw [hH]; rfl : decI x rs day = _)
  obtain ⟨res, hres⟩ : ∃ z, z = decI x rs day := ⟨_, rfl⟩
  rw [← hres] at HD ⊢
  have HVV := Lib.hid hv
  clear hH hr hv hx HHD HAP hres HH
  obtain ⟨A, c, l, ⟨e, b, u⟩, ⟨d, p, f, m, y, s, k⟩⟩ := x
  simp only at HHD2 HVV
  obtain ⟨⟨sy, sm, sd⟩, hso⟩ : ∃ z, z = solI ⟨e, b, u⟩ day := ⟨_, rfl⟩
  obtain ⟨⟨my, mm, md, mk⟩, hmo⟩ : ∃ z, z = moonI ⟨d, p, f, m, y, s, k⟩ day := ⟨_, rfl⟩
  simp only
  rw [← hso, ← hmo] at HHD2 ⊢
  simp only [Alm.cells] at HHD2 ⊢
  clear hso hmo hcx
  go_enter Try.func39, Try.ntmps39
  go_upto_region 3 with fail
  refine gen_w (fun W => Blk W w.heap.size #[.slice A l.length c, .int .i64 e, .int .i64 b, .int .i64 u, .int .i64 d, .int .i64 p, .int .i64 f, .int .i64 m, .int .i64 y, .int .i64 s, .int .i64 k] 28 ∧ Blk W (w.heap.size + 1) #[.int .i64 day, .int .i64 sy, .int .i64 sm, .int .i64 sd, .int .i64 my, .int .i64 mm, .int .i64 md, .bool mk] 79 ∧ Below w.heap.size w W) ⟨(Blk.at_ rfl).alloc _, Blk.at_ (by simp), by (repeat (first | exact Below.refl _ _ | assumption | (refine Below.alloc ?_ (by first | omega | (simp; omega) | (simp; done)) _) | (refine Below.setCell ?_ (by first | omega | (simp; omega) | (simp; done)) _) | (refine Below.drew ?_) | (refine belowN ?_ _) | (refine Below.trans ?_ (Below.mono ‹Below _ _ _› (by first | omega | (simp; omega) | (simp; done))))))⟩ ?_
  rintro V0 ⟨ga, gd, hw⟩
  go_loopw [7, 8, 9, 10] (fun ru i _ _ wr => ∃ q : Nat, q ≤ rs.length ∧ i = .int .i64 q ∧ ru = .int .i64 (lastTo (fun r => r.when_.all H) rs q) ∧ Hid (Below w.heap.size w wr) ∧ Blk wr w.heap.size #[.slice A l.length c, .int .i64 e, .int .i64 b, .int .i64 u, .int .i64 d, .int .i64 p, .int .i64 f, .int .i64 m, .int .i64 y, .int .i64 s, .int .i64 k] 28 ∧ Blk wr (w.heap.size + 1) #[.int .i64 day, .int .i64 sy, .int .i64 sm, .int .i64 sd, .int .i64 my, .int .i64 mm, .int .i64 md, .bool mk] 79) (fun _ i _ _ _ => rs.length - (intOf i).toNat)
  case atStart => exact ⟨0, by omega, rfl, rfl, hw, ga, gd⟩
  case round =>
    clear hw ga gd
    obtain ⟨q, hq, rfl, rfl, hbw, ga, gd⟩ := hrel
    have hw := hbw.out
    clear hbw
    by_cases hlt : q < rs.length
    · have hrul := HRL.out.rul _ (List.getElem_mem hlt)
      have hgood := tst_of_good (HVV.out _ (List.getElem_mem hlt))
      obtain ⟨rb, ro, rfl, hrblk, hrcell⟩ := (HRL.out.sl.below hw).at_ (k := q) (fun _ => rfl) hlt
      have HLS := Lib.hid (lastTo_succ (p := fun r : DRl => r.when_.all H) hlt)
      obtain ⟨L0, hL0⟩ : ∃ z, z = lastTo (fun r : DRl => r.when_.all H) rs q := ⟨_, rfl⟩
      rw [← hL0] at HLS ⊢
      obtain ⟨r, hre⟩ : ∃ r, r = rs[q] := ⟨_, rfl⟩
      rw [← hre] at hrcell hrul hgood HLS
      obtain ⟨ra, rc, ts, al⟩ := r
      have r0 : wr.cell? ⟨rb, ro + q * 2, none⟩ = some (.slice ra ts.length rc) := hrcell 0 _ rfl
      have htl := hrul.len
      have HTS := Lib.hid hrul.sl
      have HST := Lib.hid hrul.set
      have HGD := Lib.hid hgood
      simp only at htl HTS HST HGD HLS
      have k0 : (0 : Int) ≤ (q : Int) := by omega
      have k1 : (q : Int) < (rs.length : Int) := by omega
      clear hrcell hre hrul hgood hL0
      go_upto_region 7 with fail
      rename World => W9
      have hwz := hw.size
      go_loopw [9, 10] (fun a i wr => ∃ (j : Nat) (ap : Bool), j ≤ ts.length ∧ i = .int .i64 j ∧ a = .bool ap ∧ Hid (ap = (ts.take j).all H) ∧ Hid (Below W9.heap.size W9 wr)) (fun _ i _ => ts.length - (intOf i).toNat)
      case atStart => exact ⟨0, true, by omega, rfl, rfl, (rfl : true = _), Below.refl _ _⟩
      case round =>
        obtain ⟨j, ap, hj, rfl, rfl, HA, hb2⟩ := hrel
        have hb2 := hb2.out
        have hw2 := bl2 hw hb2
        have ga := ga.below hb2 ga.lt
        have gd := gd.below hb2 gd.lt
        have r0 := (hb2.cell (p := ⟨rb, ro + q * 2, none⟩) (by show rb < W9.heap.size; omega)).trans r0
        by_cases hjl : j < ts.length
        · obtain ⟨tb, to2, rfl, htblk, htcell⟩ := (HTS.out.below hw2).at_ (k := j) (fun _ => rfl) hjl
          have HZ2 : Hid ((ts.take (j + 1)).all H = ((ts.take j).all H && H ts[j])) := (by
            rw [List.take_succ_eq_append_getElem hjl, List.all_append]; simp : _ = _)
          have hst := HST.out _ (List.getElem_mem hjl)
          have hgt := HGD.out _ (List.getElem_mem hjl)
          obtain ⟨t, hte⟩ : ∃ t, t = ts[j] := ⟨_, rfl⟩
          rw [← hte] at htcell HZ2 hst hgt
          obtain ⟨kd, wh, st, fr, to_⟩ := t
          simp only at hst
          have t0 : wr.cell? ⟨tb, to2 + j * 5, none⟩ = some (.int .i64 kd) := htcell 0 _ rfl
          have t1 : wr.cell? ⟨tb, to2 + j * 5 + 1, none⟩ = some (.int .i64 wh) := htcell 1 _ rfl
          have t2 : wr.cell? ⟨tb, to2 + j * 5 + 2, none⟩ = some (.int .u64 st) := htcell 2 _ rfl
          have t3 : wr.cell? ⟨tb, to2 + j * 5 + 3, none⟩ = some (.int .i64 fr) := htcell 3 _ rfl
          have t4 : wr.cell? ⟨tb, to2 + j * 5 + 4, none⟩ = some (.int .i64 to_) := htcell 4 _ rfl
          have j0 : (0 : Int) ≤ (j : Int) := by omega
          have j1 : (j : Int) < (ts.length : Int) := by omega
          have HV := Lib.hid (fun W (hW : Below wr.heap.size wr W) => HHD2.out ⟨kd, wh, st, fr, to_⟩ W (bl2 hw2 hW) hst hgt)
          obtain ⟨v, hv⟩ : ∃ v, v = H ⟨kd, wh, st, fr, to_⟩ := ⟨_, rfl⟩
          rw [← hv] at HV HZ2
          (have z0 := ga.cell 0; have z1 := ga.cell 1; have z2 := ga.cell 2; have z3 := ga.cell 3; have z4 := ga.cell 4; have z5 := ga.cell 5; have z6 := ga.cell 6; have z7 := ga.cell 7; have z8 := ga.cell 8; have z9 := ga.cell 9; have z10 := ga.cell 10; simp at z0 z1 z2 z3 z4 z5 z6 z7 z8 z9 z10)
          (have y0 := gd.cell 0; have y1 := gd.cell 1; have y2 := gd.cell 2; have y3 := gd.cell 3; have y4 := gd.cell 4; have y5 := gd.cell 5; have y6 := gd.cell 6; have y7 := gd.cell 7; simp at y0 y1 y2 y3 y4 y5 y6 y7)
          clear htcell hte hst hgt hv
          go_upto_region 9 with fail
          cases ap with
          | false =>
            have HA2 : Hid (false = (ts.take (j + 1)).all H) := (by rw [HZ2.out, ← HA.out]; rfl : false = _)
            (refine wp_region_ext (by kernel_rfl) (by kernel_rfl) ?_; (repeat (go_big_quiet_step((fail)))); with_reducible refine wpQuiet_nil ?_; intro w1 hw1; have hb1 := ext_below hw1; clear hw1)
            go_wp2_with fail
            go_roundw
            case rel => exact ⟨j + 1, false, by omega, by go_num, rfl, HA2, bl2 hb2 hb1⟩
            case measure => simp [intOf]; omega
          | true =>
            have HA2 : Hid (v = (ts.take (j + 1)).all H) := (by rw [HZ2.out, ← HA.out]; simp : v = _)
            (refine wp_region_ext (by kernel_rfl) (by kernel_rfl) ?_; (repeat (go_big_quiet_step((go_at_call 77; with_reducible exact Calls.ext_of (HV.out _ (ext_below ⟨_, rfl⟩)))))); with_reducible refine wpQuiet_nil ?_; intro w1 hw1; have hb1 := ext_below hw1; clear hw1)
            go_wp2_with fail
            go_roundw
            case rel => exact ⟨j + 1, v, by omega, by go_num, rfl, HA2, bl2 hb2 hb1⟩
            case measure => simp [intOf]; omega
        · obtain rfl : j = ts.length := by omega
          have HA2 : Hid (ap = ts.all H) := (by have h := HA.out; rwa [List.take_of_length_le (Nat.le_refl _)] at h : ap = ts.all H)
          clear HA
          cases ap with
          | false =>
            have HR : Hid (lastTo (fun r : DRl => r.when_.all H) rs (q + 1) = L0) := (by rw [HLS.out, ← HA2.out]; rfl : _ = L0)
            go_wp2_with fail
            go_roundw
            case rel => exact ⟨q + 1, by omega, by go_num, by rw [HR.out], hw2, ga, gd⟩
            case measure => simp [intOf]; omega
          | true =>
            have HR : Hid (lastTo (fun r : DRl => r.when_.all H) rs (q + 1) = (q : Int)) := (by rw [HLS.out, ← HA2.out]; rfl : _ = (q : Int))
            go_wp2_with fail
            go_roundw
            case rel => exact ⟨q + 1, by omega, by go_num, by rw [HR.out], hw2, ga, gd⟩
            case measure => simp [intOf]; omega
    · obtain rfl : q = rs.length := by omega
      go_wp2_with fail
      go_ret
      exact ⟨by rw [HD.out]; rfl, hw⟩
theorem decI_bd (x : Alm) (rs : List DRl) (day : Int) : -1 ≤ decI x rs day ∧ decI x rs day < rs.length := lastTo_bd _ _ _ (Nat.le_refl _)
set_option maxRecDepth 100000 in
set_option maxHeartbeats 4000000 in
theorem rallowed_any (x : Alm) (A2 : Option Addr) (c2 : Nat) (ps : List DPs) (day : Int) (w : World) (hx : almB x = true) (d0 : 0 ≤ day) (d1 : day ≤ 1000000) (hv : ∀ p ∈ ps, ∀ r ∈ p.rules, badR x.cycles r = false) (hcx : Sl Cyc.cells 2 w w.heap.size x.a x.cycles) (hr : PsA w w.heap.size A2 ps) :
    Calls Try.prog 66 #[.agg x.cells.toArray, .slice A2 ps.length c2, .agg (datesV day (solI x.sol day) (moonI x.lun day))] w fun e w' => e = .returned (.bool (allB x ps day)) ∧ Below w.heap.size w w' := by
  have hlen := hr.len
  have HPS := Lib.hid hr
  have HDC := Lib.hid (fun (q : DPs) (hq : q ∈ ps) (W : World) (hW : Below w.heap.size w W) => rdecides_any x q.a q.c q.rules day W hx d0 d1 (hv q hq) ((hcx.below hW).more hW.size) (((hr.rul q hq).below hW).more hW.size))
  have HAL : Hid (∀ q : DPs, allowB x q.rules day = (decide (0 ≤ decI x q.rules day) && (match q.rules[(decI x q.rules day).toNat]? with | some r => r.allow | none => false))) := (fun _ => rfl : ∀ q : DPs, allowB x q.rules day = _)
  have HBD := Lib.hid (fun q : DPs => decI_bd x q.rules day)
  have HAB : Hid (allB x ps day = ps.all fun p => allowB x p.rules day) := (rfl : allB x ps day = _)
  obtain ⟨D, hD⟩ : ∃ D : List DRl → Int, D = fun rs => decI x rs day := ⟨_, rfl⟩
  obtain ⟨Al, hAl⟩ : ∃ Al : List DRl → Bool, Al = fun rs => allowB x rs day := ⟨_, rfl⟩
  have HDC2 : Hid (∀ (q : DPs), q ∈ ps → ∀ W, Below w.heap.size w W → Calls Try.prog 39 #[.agg x.cells.toArray, .slice q.a q.rules.length q.c, .agg (datesV day (solI x.sol day) (moonI x.lun day))] W fun e w' => e = .returned (.int .i64 (D q.rules)) ∧ Below W.heap.size W w') := (fun q hq W hW => by rw [hD]; exact HDC.out q hq W hW : ∀ (q : DPs), q ∈ ps → ∀ W, Below w.heap.size w W → Calls Try.prog 39 #[.agg x.cells.toArray, .slice q.a q.rules.length q.c, .agg (datesV day (solI x.sol day) (moonI x.lun day))] W fun e w' => e = .returned (.int .i64 (D q.rules)) ∧ Below W.heap.size W w')
  have HAL2 : Hid (∀ q : DPs, Al q.rules = (decide (0 ≤ D q.rules) && (match q.rules[(D q.rules).toNat]? with | some r => r.allow | none => false))) := (fun q => by rw [hD, hAl]; exact HAL.out q : ∀ q : DPs, Al q.rules = _)
  have HBD2 : Hid (∀ q : DPs, -1 ≤ D q.rules ∧ D q.rules < q.rules.length) := (fun q => by rw [hD]; exact HBD.out q : ∀ q : DPs, -1 ≤ D q.rules ∧ D q.rules < q.rules.length)
  have HAB2 : Hid (allB x ps day = ps.all fun p => Al p.rules) := (by rw [hAl]; exact HAB.out : allB x ps day = _)
  obtain ⟨res, hres⟩ : ∃ z, z = allB x ps day := ⟨_, rfl⟩
  rw [← hres] at HAB2 ⊢
  clear hr hv hx HDC HAL HBD HAB hD hAl hres hcx
  obtain ⟨A, c, l, ⟨e, b, u⟩, ⟨d, p, f, m, y, s, k⟩⟩ := x
  simp only at HDC2
  obtain ⟨⟨sy, sm, sd⟩, hso⟩ : ∃ z, z = solI ⟨e, b, u⟩ day := ⟨_, rfl⟩
  obtain ⟨⟨my, mm, md, mk⟩, hmo⟩ : ∃ z, z = moonI ⟨d, p, f, m, y, s, k⟩ day := ⟨_, rfl⟩
  simp only
  rw [← hso, ← hmo] at HDC2 ⊢
  simp only [Alm.cells] at HDC2 ⊢
  clear hso hmo
  go_enter Try.func66, Try.ntmps66
  go_upto_region 2 with fail
  refine gen_w (fun W => Blk W w.heap.size #[.slice A l.length c, .int .i64 e, .int .i64 b, .int .i64 u, .int .i64 d, .int .i64 p, .int .i64 f, .int .i64 m, .int .i64 y, .int .i64 s, .int .i64 k] 28 ∧ Blk W (w.heap.size + 1) #[.int .i64 day, .int .i64 sy, .int .i64 sm, .int .i64 sd, .int .i64 my, .int .i64 mm, .int .i64 md, .bool mk] 79 ∧ Below w.heap.size w W) ⟨(Blk.at_ rfl).alloc _, Blk.at_ (by simp), by (repeat (first | exact Below.refl _ _ | assumption | (refine Below.alloc ?_ (by first | omega | (simp; omega) | (simp; done)) _) | (refine Below.setCell ?_ (by first | omega | (simp; omega) | (simp; done)) _) | (refine Below.drew ?_) | (refine belowN ?_ _) | (refine Below.trans ?_ (Below.mono ‹Below _ _ _› (by first | omega | (simp; omega) | (simp; done))))))⟩ ?_
  rintro V0 ⟨ga, gd, hw⟩
  go_loopw [7, 8] (fun i _ wr => ∃ q : Nat, q ≤ ps.length ∧ i = .int .i64 q ∧ Hid (res = (ps.drop q).all fun p => Al p.rules) ∧ Hid (Below w.heap.size w wr) ∧ Blk wr w.heap.size #[.slice A l.length c, .int .i64 e, .int .i64 b, .int .i64 u, .int .i64 d, .int .i64 p, .int .i64 f, .int .i64 m, .int .i64 y, .int .i64 s, .int .i64 k] 28 ∧ Blk wr (w.heap.size + 1) #[.int .i64 day, .int .i64 sy, .int .i64 sm, .int .i64 sd, .int .i64 my, .int .i64 mm, .int .i64 md, .bool mk] 79) (fun i _ _ => ps.length - (intOf i).toNat)
  case atStart => exact ⟨0, by omega, rfl, HAB2.out, hw, ga, gd⟩
  case round =>
    clear hw ga gd
    obtain ⟨q, hq, rfl, HRS, hbw, ga, gd⟩ := hrel
    have hw := hbw.out
    clear hbw
    by_cases hlt : q < ps.length
    · have hrul := HPS.out.rul _ (List.getElem_mem hlt)
      obtain ⟨rb, ro, rfl, hrblk, hrcell⟩ := (HPS.out.sl.below hw).at_ (k := q) (fun _ => rfl) hlt
      have HZ : Hid (ps.drop q = ps[q] :: ps.drop (q + 1)) := (List.drop_eq_getElem_cons hlt : _ = _)
      have HDQ := Lib.hid (HDC2.out _ (List.getElem_mem hlt))
      have HAQ := Lib.hid (HAL2.out ps[q])
      have hbd := HBD2.out ps[q]
      obtain ⟨r, hre⟩ : ∃ r, r = ps[q] := ⟨_, rfl⟩
      rw [← hre] at hrcell hrul HZ HDQ HAQ hbd
      obtain ⟨pa, pc, rs⟩ := r
      have r0 : wr.cell? ⟨rb, ro + q, none⟩ = some (.slice pa rs.length pc) := by have := hrcell 0 _ rfl; simpa using this
      simp only at HDQ HAQ hbd hrul
      have HRU := Lib.hid hrul
      have HR1 : Hid (res = (Al rs && (ps.drop (q + 1)).all fun p => Al p.rules)) := (by rw [HRS.out, HZ.out]; rfl : res = _)
      obtain ⟨dq, hdq⟩ : ∃ z, z = D rs := ⟨_, rfl⟩
      rw [← hdq] at HDQ HAQ hbd
      have k0 : (0 : Int) ≤ (q : Int) := by omega
      have k1 : (q : Int) < (ps.length : Int) := by omega
      have HDW := Lib.hid (fun W (hW : Below wr.heap.size wr W) => HDQ.out W (bl2 hw hW))
      clear hrcell hre hrul hdq HZ HRS
      (have z0 := ga.cell 0; have z1 := ga.cell 1; have z2 := ga.cell 2; have z3 := ga.cell 3; have z4 := ga.cell 4; have z5 := ga.cell 5; have z6 := ga.cell 6; have z7 := ga.cell 7; have z8 := ga.cell 8; have z9 := ga.cell 9; have z10 := ga.cell 10; simp at z0 z1 z2 z3 z4 z5 z6 z7 z8 z9 z10)
      (have y0 := gd.cell 0; have y1 := gd.cell 1; have y2 := gd.cell 2; have y3 := gd.cell 3; have y4 := gd.cell 4; have y5 := gd.cell 5; have y6 := gd.cell 6; have y7 := gd.cell 7; simp at y0 y1 y2 y3 y4 y5 y6 y7)
      go_upto_region 4 with fail
      (refine wp_region_ext (by kernel_rfl) (by kernel_rfl) ?_; (repeat (go_big_quiet_step((go_at_call 39; with_reducible exact Calls.ext_of (HDW.out _ (ext_below ⟨_, rfl⟩)))))); with_reducible refine wpQuiet_nil ?_; intro w1 hw1; have hb1 := ext_below hw1; clear hw1)
      have hw2 := bl2 hw hb1
      have ga := ga.below hb1 ga.lt
      have gd := gd.below hb1 gd.lt
      have r0 := (hb1.cell (p := ⟨rb, ro + q, none⟩) (by have := hw.size; show rb < wr.heap.size; omega)).trans r0
      by_cases hn : dq < 0
      · have t1 : decide (dq < 0) = true := by simpa using hn
        have HT : Hid (res = false) := (by rw [HR1.out, HAQ.out, decide_eq_false (by omega)]; rfl : res = false)
        go_wp2_with fail
        go_ret
        exact ⟨ret_bool HT.out.symm, hw2⟩
      · have t1 : decide (dq < 0) = false := by simpa using hn
        obtain ⟨n, rfl⟩ := Int.eq_ofNat_of_zero_le (show 0 ≤ dq by omega)
        have hnl : n < rs.length := by omega
        obtain ⟨ub, uo, rfl, hublk, hucell⟩ := (HRU.out.sl.below hw2).at_ (k := n) (fun _ => rfl) hnl
        have HAQ2 : Hid (Al rs = rs[n].allow) := (by
          rw [HAQ.out, decide_eq_true (by omega), Int.toNat_natCast, List.getElem?_eq_getElem hnl]; rfl : Al rs = _)
        obtain ⟨al, hal⟩ : ∃ z, z = rs[n].allow := ⟨_, rfl⟩
        rw [← hal] at HAQ2
        have u1 : w1.cell? ⟨ub, uo + n * 2 + 1, none⟩ = some (.bool al) := by rw [hal]; exact hucell 1 _ rfl
        have n0 : (0 : Int) ≤ (n : Int) := by omega
        have n1 : (n : Int) < (rs.length : Int) := by omega
        clear hucell hal HAQ
        cases al with
        | false =>
          have HT : Hid (res = false) := (by rw [HR1.out, HAQ2.out]; rfl : res = false)
          go_wp2_with fail
          go_ret
          exact ⟨ret_bool HT.out.symm, hw2⟩
        | true =>
          have HR2 : Hid (res = (ps.drop (q + 1)).all fun p => Al p.rules) := (by rw [HR1.out, HAQ2.out]; rfl : res = _)
          go_wp2_with fail
          go_roundw
          case rel => exact ⟨q + 1, by omega, by go_num, HR2, hw2, ga, gd⟩
          case measure => simp [intOf]; omega
    · obtain rfl : q = ps.length := by omega
      have HT : Hid (res = true) := (by rw [HRS.out, List.drop_eq_nil_of_le (Nat.le_refl _)]; rfl : res = true)
      go_wp2_with fail
      go_ret
      exact ⟨ret_bool HT.out.symm, hw⟩
end Go.Proofs.Ytfbnllmmoaialaa

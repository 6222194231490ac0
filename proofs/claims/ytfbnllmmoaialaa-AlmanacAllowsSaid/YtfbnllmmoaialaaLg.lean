/- almanac: the law AlmanacAllows returns true. -/
import Derived.Test.YtfbnllmmoaialaaZ22He
import Derived.Test.YtfbnllmmoaialaaZ24RfL
import Derived.Test.YtfbnllmmoaialaaRfO
import Derived.Test.YtfbnllmmoaialaaB20Fa
namespace Go.Proofs.Ytfbnllmmoaialaa
open Go.RowKit

theorem checkX_any (x : Alm) (w : World) (hl : x.cycles.length ≤ 1000000) (hr : Sl Cyc.cells 2 w w.heap.size x.a x.cycles) : Calls Try.prog 36 #[.agg x.cells.toArray] w fun en w' => en = .returned (.int .i64 (almE x)) ∧ Below w.heap.size w w' :=
  checkF_any x.a x.c x.cycles x.sol.e x.sol.b x.sol.u x.lun.d x.lun.p x.lun.f x.lun.m x.lun.y x.lun.s x.lun.l w hl hr
theorem ralmanacX_any (x : Alm) (w : World) (hl : x.cycles.length ≤ 1000000) (hr : Sl Cyc.cells 2 w w.heap.size x.a x.cycles) : Calls Try.prog 38 #[.agg x.cells.toArray] w fun en w' => en = .returned (.bool (almB x)) ∧ Below w.heap.size w w' :=
  ralmanac_any x.a x.c x.cycles x.sol.e x.sol.b x.sol.u x.lun.d x.lun.p x.lun.f x.lun.m x.lun.y x.lun.s x.lun.l w hl hr
set_option maxRecDepth 100000 in
set_option maxHeartbeats 8000000 in
theorem lwallows_any (x : Alm) (A2 : Option Addr) (c2 : Nat) (rs : List DRl) (day : Int) (w : World) (hz : x.a = none → x.c = 0) (hlx : x.cycles.length ≤ 1000000) (hcx : Sl Cyc.cells 2 w w.heap.size x.a x.cycles) (hr : RlsIn w A2 rs) :
    Calls Try.prog 6 #[.agg x.cells.toArray, .slice A2 rs.length c2, .int .i64 day] w fun en w' => en = .returned (.bool true) ∧ Below w.heap.size w w' := by
  have HLG := Lib.hid (fun W (hW : Below w.heap.size w W) => large_any x A2 c2 rs W ((hr.w.below hW).more hW.size))
  obtain ⟨lg, hlg⟩ : ∃ v, v = largeB x rs := ⟨_, rfl⟩
  rw [← hlg] at HLG
  have HOW := Lib.hid (fun W (hW : Below w.heap.size w W) => own_any x W hz hlx ((hcx.below hW).more hW.size))
  have HCK := Lib.hid (fun A c W (h : Sl Cyc.cells 2 W W.heap.size A x.cycles) => (id (checkX_any (x.at_ A c) W hlx h) : Calls Try.prog 36 #[.agg (Alm.cells ⟨A, c, x.cycles, x.sol, x.lun⟩).toArray] W fun en w' => en = .returned (.int .i64 (almE x)) ∧ Below W.heap.size W w'))
  have HRA := Lib.hid (fun W (hW : Below w.heap.size w W) => ralmanacX_any x W hlx ((hcx.below hW).more hW.size))
  have HRB := Lib.hid (fun W (hW : Below w.heap.size w W) => rboth_any x A2 c2 rs W hlx ((hcx.below hW).more hW.size) ((hr.at_.below hW).more hW.size))
  have HAL := Lib.hid (fun A c (A3 : Option Addr) (k3 : Nat) (l' : List DRl) W (h : Sl Cyc.cells 2 W W.heap.size A x.cycles) (h2 : RlsAt W W.heap.size A3 l') (h3 : l'.map DRl.pl = rs.map DRl.pl) => (by
    have h4 := allowedF_any (x.at_ A c) A3 k3 l' day W hlx h h2
    rw [allowedR_cong h3] at h4
    exact id h4 : Calls Try.prog 37 #[.agg (Alm.cells ⟨A, c, x.cycles, x.sol, x.lun⟩).toArray, .slice A3 l'.length k3, .int .i64 day] W fun e w' => e = .returned (.tuple #[.bool (allowedR x rs day).1, .int .i64 (allowedR x rs day).2.1, .int .i64 (allowedR x rs day).2.2]) ∧ Below W.heap.size W w'))
  have HRU := Lib.hid (fun (hl : rs.length ≤ 35) W (hW : Below w.heap.size w W) => rules_any A2 c2 rs W ((hr.at_.below hW).more hW.size) hr.nil (by omega))
  have HNL : Hid (lg = false → rs.length ≤ 35) := (fun h => (not_large (by rw [← hlg]; exact h)).1 : lg = false → rs.length ≤ 35)
  have HRL := Lib.hid hr.at_
  have HOF := Lib.hid (fun (h1 : almB x = true) (h2 : 0 ≤ day) (h3 : day ≤ 1000000) W => rof_any x day W h1 h2 h3)
  have HDC := Lib.hid (fun (h1 : almB x = true) (h2 : 0 ≤ day) (h3 : day ≤ 1000000) (h4 : ∀ r ∈ rs, badR x.cycles r = false) W (hW : Below w.heap.size w W) => rdecides_any x A2 c2 rs day W h1 h2 h3 h4 ((hcx.below hW).more hW.size) ((hr.at_.below hW).more hW.size))
  obtain ⟨⟨ok, ru, fe⟩, hR⟩ : ∃ z, allowedR x rs day = z := ⟨_, rfl⟩
  rw [hR] at HAL
  have HR := Lib.hid hR
  obtain ⟨ab, hab⟩ : ∃ v, v = almB x := ⟨_, rfl⟩
  obtain ⟨ae, hae⟩ : ∃ v, v = almE x := ⟨_, rfl⟩
  obtain ⟨be, hbe⟩ : ∃ v, v = bothE x rs := ⟨_, rfl⟩
  rw [← hab] at HRA HOF HDC
  rw [← hae] at HCK
  rw [← hbe] at HRB
  have HAB := Lib.hid hab; have HAE := Lib.hid hae; have HBE := Lib.hid hbe
  have HBZ : Hid (be = 0 → almB x = true ∧ ∀ r ∈ rs, badR x.cycles r = false) := (fun h => by
    have h1 := bothE_zero (hbe.symm.trans h)
    exact ⟨h1.1, h1.2.2⟩ : be = 0 → almB x = true ∧ ∀ r ∈ rs, badR x.cycles r = false)
  have HAW : Hid (allowedR x rs day = if bothE x rs = 0 then (if inB day 0 1000000 then (allowB x rs day, decI x rs day, 0) else (false, 0, 3)) else (false, 0, bothE x rs)) := (rfl : allowedR x rs day = _)
  have HALB : Hid (allowB x rs day = (decide (0 ≤ decI x rs day) && (match rs[(decI x rs day).toNat]? with | some r => r.allow | none => false))) := (rfl : allowB x rs day = _)
  have hbd := decI_bd x rs day
  obtain ⟨di, hdi⟩ : ∃ v, v = decI x rs day := ⟨_, rfl⟩
  rw [← hdi] at HAW HALB HDC hbd
  have HAE2 : Hid (almE x = if almB x then 0 else 2) := (rfl : almE x = _)
  have HBE2 : Hid (bothE x rs = if almB x then chkE x.cycles rs else 2) := (rfl : bothE x rs = _)
  obtain ⟨dv, hdv⟩ : ∃ v, v = datesV day (solI x.sol day) (moonI x.lun day) := ⟨_, rfl⟩
  rw [← hdv] at HDC HOF
  clear hr hcx hlg hR hab hae hbe hdi hdv
  cases lg with
  | true =>
    obtain ⟨A, c, l, ⟨e, b, u⟩, ⟨d, p, f, m, y, s, k⟩⟩ := x
    simp only [Alm.cells] at *
    go_enter Try.func6, Try.ntmps6
    go_upto_region 1 with fail
    refine gen_w (fun W => Blk W w.heap.size #[.slice A l.length c, .int .i64 e, .int .i64 b, .int .i64 u, .int .i64 d, .int .i64 p, .int .i64 f, .int .i64 m, .int .i64 y, .int .i64 s, .int .i64 k] 28 ∧ Below w.heap.size w W) ⟨Blk.at_ rfl, by (repeat (first | exact Below.refl _ _ | assumption | (refine Below.alloc ?_ (by first | omega | (simp; omega) | (simp; done)) _) | (refine Below.setCell ?_ (by first | omega | (simp; omega) | (simp; done)) _) | (refine Below.drew ?_) | (refine belowN ?_ _) | (refine Below.trans ?_ (Below.mono ‹Below _ _ _› (by first | omega | (simp; omega) | (simp; done))))))⟩ ?_
    rintro V0 ⟨ga, hw⟩
    have z0 := ga.cell 0; have z1 := ga.cell 1; have z2 := ga.cell 2; have z3 := ga.cell 3; have z4 := ga.cell 4; have z5 := ga.cell 5; have z6 := ga.cell 6; have z7 := ga.cell 7; have z8 := ga.cell 8; have z9 := ga.cell 9; have z10 := ga.cell 10
    simp at z0 z1 z2 z3 z4 z5 z6 z7 z8 z9 z10
    go_wp2_with (first | (go_at_call 15; (with_reducible refine (HLG.out _ hw).mono ?_); rintro _ V1 ⟨rfl, hb1⟩; (have hw := bl2 hw hb1; have ga := ga.below hb1 ga.lt; (have z0 := ga.cell 0; have z1 := ga.cell 1; have z2 := ga.cell 2; have z3 := ga.cell 3; have z4 := ga.cell 4; have z5 := ga.cell 5; have z6 := ga.cell 6; have z7 := ga.cell 7; have z8 := ga.cell 8; have z9 := ga.cell 9; have z10 := ga.cell 10; simp at z0 z1 z2 z3 z4 z5 z6 z7 z8 z9 z10))) | (go_at_call 17; refine (known_any _).mono ?_; rintro _ V1 ⟨rfl, hb1⟩; have hw := bl2 hw hb1))
    refine bodyPost_ret (v := .bool true) (by simp [results, Try.results6, go_sem]) rfl ?_
    exact ⟨rfl, hw⟩
  | false =>
    have HRU2 := Lib.hid (HRU.out (HNL.out rfl))
    have hl35 := HNL.out rfl
    clear HRU HNL
    by_cases hb0 : be = 0
    · obtain ⟨hx, hbad⟩ := HBZ.out hb0
      have HBB := Lib.hid hbad
      have ha1 : ab = true := HAB.out.trans hx
      have ha2 : ae = 0 := by rw [HAE.out, HAE2.out, hx]; rfl
      subst hb0 ha1 ha2
      cases hd : inB day 0 1000000 with
      | false =>
        have HDV := Lib.hid (fun W => rday_val hd W)
        have h3 := HR.out
        rw [HAW.out, ← HBE.out, if_pos rfl, hd] at h3
        simp only [Bool.false_eq_true, if_false, Prod.mk.injEq] at h3
        obtain ⟨rfl, rfl, rfl⟩ := h3
        clear hbad hx hd HR HAW HALB HBZ HAB HAE HBE HAE2 HBE2 HBB HOF HDC
        obtain ⟨A, c, l, ⟨e, b, u⟩, ⟨d, p, f, m, y, s, k⟩⟩ := x
        simp only [Alm.cells] at *
        go_enter Try.func6, Try.ntmps6
        go_upto_region 1 with fail
        refine gen_w (fun W => Blk W w.heap.size #[.slice A l.length c, .int .i64 e, .int .i64 b, .int .i64 u, .int .i64 d, .int .i64 p, .int .i64 f, .int .i64 m, .int .i64 y, .int .i64 s, .int .i64 k] 28 ∧ Below w.heap.size w W) ⟨Blk.at_ rfl, by (repeat (first | exact Below.refl _ _ | assumption | (refine Below.alloc ?_ (by first | omega | (simp; omega) | (simp; done)) _) | (refine Below.setCell ?_ (by first | omega | (simp; omega) | (simp; done)) _) | (refine Below.drew ?_) | (refine belowN ?_ _) | (refine Below.trans ?_ (Below.mono ‹Below _ _ _› (by first | omega | (simp; omega) | (simp; done))))))⟩ ?_
        rintro V0 ⟨ga, hw⟩
        have z0 := ga.cell 0; have z1 := ga.cell 1; have z2 := ga.cell 2; have z3 := ga.cell 3; have z4 := ga.cell 4; have z5 := ga.cell 5; have z6 := ga.cell 6; have z7 := ga.cell 7; have z8 := ga.cell 8; have z9 := ga.cell 9; have z10 := ga.cell 10
        simp at z0 z1 z2 z3 z4 z5 z6 z7 z8 z9 z10
        go_upto_region 3 with (go_at_call 15; (with_reducible refine (HLG.out _ hw).mono ?_); rintro _ V1 ⟨rfl, hb1⟩; (have hw := bl2 hw hb1; have ga := ga.below hb1 ga.lt; (have z0 := ga.cell 0; have z1 := ga.cell 1; have z2 := ga.cell 2; have z3 := ga.cell 3; have z4 := ga.cell 4; have z5 := ga.cell 5; have z6 := ga.cell 6; have z7 := ga.cell 7; have z8 := ga.cell 8; have z9 := ga.cell 9; have z10 := ga.cell 10; simp at z0 z1 z2 z3 z4 z5 z6 z7 z8 z9 z10)))
        clear hb1
        go_upto_region 4 with (first | (go_at_call 19; (with_reducible refine (HOW.out _ hw).mono ?_); rintro _ V2 ⟨A1, q1, rfl, hs1, -, hb1⟩; (have hw := bl2 hw hb1; have ga := ga.below hb1 ga.lt; (have z0 := ga.cell 0; have z1 := ga.cell 1; have z2 := ga.cell 2; have z3 := ga.cell 3; have z4 := ga.cell 4; have z5 := ga.cell 5; have z6 := ga.cell 6; have z7 := ga.cell 7; have z8 := ga.cell 8; have z9 := ga.cell 9; have z10 := ga.cell 10; simp at z0 z1 z2 z3 z4 z5 z6 z7 z8 z9 z10))) | (go_at_call 36; (with_reducible refine (HCK.out _ _ _ hs1).mono ?_); rintro _ V3 ⟨rfl, hb1⟩; (have hw := bl2 hw hb1; have ga := ga.below hb1 ga.lt; (have z0 := ga.cell 0; have z1 := ga.cell 1; have z2 := ga.cell 2; have z3 := ga.cell 3; have z4 := ga.cell 4; have z5 := ga.cell 5; have z6 := ga.cell 6; have z7 := ga.cell 7; have z8 := ga.cell 8; have z9 := ga.cell 9; have z10 := ga.cell 10; simp at z0 z1 z2 z3 z4 z5 z6 z7 z8 z9 z10))))
        clear hb1 hs1
        go_upto_region 5 with (first | (go_at_call 19; (with_reducible refine (HOW.out _ hw).mono ?_); rintro _ V2 ⟨A1, q1, rfl, hs1, -, hb1⟩; (have hw := bl2 hw hb1; have ga := ga.below hb1 ga.lt; (have z0 := ga.cell 0; have z1 := ga.cell 1; have z2 := ga.cell 2; have z3 := ga.cell 3; have z4 := ga.cell 4; have z5 := ga.cell 5; have z6 := ga.cell 6; have z7 := ga.cell 7; have z8 := ga.cell 8; have z9 := ga.cell 9; have z10 := ga.cell 10; simp at z0 z1 z2 z3 z4 z5 z6 z7 z8 z9 z10))) | (go_at_call 20; (with_reducible refine (HRU2.out _ hw).mono ?_); rintro _ V4 ⟨A3, q3, l', rfl, hpl, hown3, hrow3, hb1⟩; have hs1 := (hs1.below hb1).more hb1.size; have hr3 := RetRls.at_ hown3.out hrow3 (by rw [len_pl hpl]; omega); have HP3 := Lib.hid hpl; clear hpl hown3 hrow3; (have hw := bl2 hw hb1; have ga := ga.below hb1 ga.lt; (have z0 := ga.cell 0; have z1 := ga.cell 1; have z2 := ga.cell 2; have z3 := ga.cell 3; have z4 := ga.cell 4; have z5 := ga.cell 5; have z6 := ga.cell 6; have z7 := ga.cell 7; have z8 := ga.cell 8; have z9 := ga.cell 9; have z10 := ga.cell 10; simp at z0 z1 z2 z3 z4 z5 z6 z7 z8 z9 z10))) | (go_at_call 37; (with_reducible refine (HAL.out _ _ _ _ _ _ hs1 hr3 HP3.out).mono ?_); rintro _ V5 ⟨rfl, hb1⟩; (have hw := bl2 hw hb1; have ga := ga.below hb1 ga.lt; (have z0 := ga.cell 0; have z1 := ga.cell 1; have z2 := ga.cell 2; have z3 := ga.cell 3; have z4 := ga.cell 4; have z5 := ga.cell 5; have z6 := ga.cell 6; have z7 := ga.cell 7; have z8 := ga.cell 8; have z9 := ga.cell 9; have z10 := ga.cell 10; simp at z0 z1 z2 z3 z4 z5 z6 z7 z8 z9 z10))))
        clear hb1 hs1 hr3
        go_upto_region 8 with (first | (go_at_call 38; (with_reducible refine (HRA.out _ hw).mono ?_); rintro _ V6 ⟨rfl, hb1⟩; (have hw := bl2 hw hb1; have ga := ga.below hb1 ga.lt; (have z0 := ga.cell 0; have z1 := ga.cell 1; have z2 := ga.cell 2; have z3 := ga.cell 3; have z4 := ga.cell 4; have z5 := ga.cell 5; have z6 := ga.cell 6; have z7 := ga.cell 7; have z8 := ga.cell 8; have z9 := ga.cell 9; have z10 := ga.cell 10; simp at z0 z1 z2 z3 z4 z5 z6 z7 z8 z9 z10))) | (go_at_call 21; (with_reducible refine (HRB.out _ hw).mono ?_); rintro _ V7 ⟨rfl, hb1⟩; (have hw := bl2 hw hb1; have ga := ga.below hb1 ga.lt; (have z0 := ga.cell 0; have z1 := ga.cell 1; have z2 := ga.cell 2; have z3 := ga.cell 3; have z4 := ga.cell 4; have z5 := ga.cell 5; have z6 := ga.cell 6; have z7 := ga.cell 7; have z8 := ga.cell 8; have z9 := ga.cell 9; have z10 := ga.cell 10; simp at z0 z1 z2 z3 z4 z5 z6 z7 z8 z9 z10))))
        clear hb1
        go_wp2_with (first | (go_at_call 28; (with_reducible refine (HDV.out _).mono ?_); rintro _ _ ⟨rfl, rfl⟩) | (go_at_call 17; refine (known_any _).mono ?_; rintro _ V1 ⟨rfl, hb1⟩; have hw := bl2 hw hb1))
        refine bodyPost_ret (v := .bool true) (by simp [results, Try.results6, go_sem]) rfl ?_
        exact ⟨rfl, hw⟩
      | true =>
        have HDV := Lib.hid (fun W => rday_val hd W)
        obtain ⟨d0, d1⟩ := inB_iff.1 hd
        have HOF2 := Lib.hid (fun W => HOF.out rfl d0 d1 W)
        have HDC2 := Lib.hid (fun W hW => HDC.out rfl d0 d1 HBB.out W hW)
        have HK := Lib.hid (fun W => known_any W)
        have h3 := HR.out
        rw [HAW.out, ← HBE.out, if_pos rfl, hd] at h3
        simp only [if_true, Prod.mk.injEq] at h3
        obtain ⟨h4, rfl, rfl⟩ := h3
        have HOKV : Hid (ok = (decide (0 ≤ di) && (match rs[di.toNat]? with | some r => r.allow | none => false))) := (by rw [← HALB.out]; exact h4.symm : ok = _)
        clear hbad hx hd HR HAW HALB HBZ HAB HAE HBE HAE2 HBE2 HBB HOF HDC h4
        obtain ⟨A, c, l, ⟨e, b, u⟩, ⟨d, p, f, m, y, s, k⟩⟩ := x
        simp only [Alm.cells] at *
        go_enter Try.func6, Try.ntmps6
        go_upto_region 1 with fail
        refine gen_w (fun W => Blk W w.heap.size #[.slice A l.length c, .int .i64 e, .int .i64 b, .int .i64 u, .int .i64 d, .int .i64 p, .int .i64 f, .int .i64 m, .int .i64 y, .int .i64 s, .int .i64 k] 28 ∧ Below w.heap.size w W) ⟨Blk.at_ rfl, by (repeat (first | exact Below.refl _ _ | assumption | (refine Below.alloc ?_ (by first | omega | (simp; omega) | (simp; done)) _) | (refine Below.setCell ?_ (by first | omega | (simp; omega) | (simp; done)) _) | (refine Below.drew ?_) | (refine belowN ?_ _) | (refine Below.trans ?_ (Below.mono ‹Below _ _ _› (by first | omega | (simp; omega) | (simp; done))))))⟩ ?_
        rintro V0 ⟨ga, hw⟩
        have z0 := ga.cell 0; have z1 := ga.cell 1; have z2 := ga.cell 2; have z3 := ga.cell 3; have z4 := ga.cell 4; have z5 := ga.cell 5; have z6 := ga.cell 6; have z7 := ga.cell 7; have z8 := ga.cell 8; have z9 := ga.cell 9; have z10 := ga.cell 10
        simp at z0 z1 z2 z3 z4 z5 z6 z7 z8 z9 z10
        go_upto_region 3 with (go_at_call 15; (with_reducible refine (HLG.out _ hw).mono ?_); rintro _ V1 ⟨rfl, hb1⟩; (have hw := bl2 hw hb1; have ga := ga.below hb1 ga.lt; (have z0 := ga.cell 0; have z1 := ga.cell 1; have z2 := ga.cell 2; have z3 := ga.cell 3; have z4 := ga.cell 4; have z5 := ga.cell 5; have z6 := ga.cell 6; have z7 := ga.cell 7; have z8 := ga.cell 8; have z9 := ga.cell 9; have z10 := ga.cell 10; simp at z0 z1 z2 z3 z4 z5 z6 z7 z8 z9 z10)))
        clear hb1
        go_upto_region 4 with (first | (go_at_call 19; (with_reducible refine (HOW.out _ hw).mono ?_); rintro _ V2 ⟨A1, q1, rfl, hs1, -, hb1⟩; (have hw := bl2 hw hb1; have ga := ga.below hb1 ga.lt; (have z0 := ga.cell 0; have z1 := ga.cell 1; have z2 := ga.cell 2; have z3 := ga.cell 3; have z4 := ga.cell 4; have z5 := ga.cell 5; have z6 := ga.cell 6; have z7 := ga.cell 7; have z8 := ga.cell 8; have z9 := ga.cell 9; have z10 := ga.cell 10; simp at z0 z1 z2 z3 z4 z5 z6 z7 z8 z9 z10))) | (go_at_call 36; (with_reducible refine (HCK.out _ _ _ hs1).mono ?_); rintro _ V3 ⟨rfl, hb1⟩; (have hw := bl2 hw hb1; have ga := ga.below hb1 ga.lt; (have z0 := ga.cell 0; have z1 := ga.cell 1; have z2 := ga.cell 2; have z3 := ga.cell 3; have z4 := ga.cell 4; have z5 := ga.cell 5; have z6 := ga.cell 6; have z7 := ga.cell 7; have z8 := ga.cell 8; have z9 := ga.cell 9; have z10 := ga.cell 10; simp at z0 z1 z2 z3 z4 z5 z6 z7 z8 z9 z10))))
        clear hb1 hs1
        go_upto_region 5 with (first | (go_at_call 19; (with_reducible refine (HOW.out _ hw).mono ?_); rintro _ V2 ⟨A1, q1, rfl, hs1, -, hb1⟩; (have hw := bl2 hw hb1; have ga := ga.below hb1 ga.lt; (have z0 := ga.cell 0; have z1 := ga.cell 1; have z2 := ga.cell 2; have z3 := ga.cell 3; have z4 := ga.cell 4; have z5 := ga.cell 5; have z6 := ga.cell 6; have z7 := ga.cell 7; have z8 := ga.cell 8; have z9 := ga.cell 9; have z10 := ga.cell 10; simp at z0 z1 z2 z3 z4 z5 z6 z7 z8 z9 z10))) | (go_at_call 20; (with_reducible refine (HRU2.out _ hw).mono ?_); rintro _ V4 ⟨A3, q3, l', rfl, hpl, hown3, hrow3, hb1⟩; have hs1 := (hs1.below hb1).more hb1.size; have hr3 := RetRls.at_ hown3.out hrow3 (by rw [len_pl hpl]; omega); have HP3 := Lib.hid hpl; clear hpl hown3 hrow3; (have hw := bl2 hw hb1; have ga := ga.below hb1 ga.lt; (have z0 := ga.cell 0; have z1 := ga.cell 1; have z2 := ga.cell 2; have z3 := ga.cell 3; have z4 := ga.cell 4; have z5 := ga.cell 5; have z6 := ga.cell 6; have z7 := ga.cell 7; have z8 := ga.cell 8; have z9 := ga.cell 9; have z10 := ga.cell 10; simp at z0 z1 z2 z3 z4 z5 z6 z7 z8 z9 z10))) | (go_at_call 37; (with_reducible refine (HAL.out _ _ _ _ _ _ hs1 hr3 HP3.out).mono ?_); rintro _ V5 ⟨rfl, hb1⟩; (have hw := bl2 hw hb1; have ga := ga.below hb1 ga.lt; (have z0 := ga.cell 0; have z1 := ga.cell 1; have z2 := ga.cell 2; have z3 := ga.cell 3; have z4 := ga.cell 4; have z5 := ga.cell 5; have z6 := ga.cell 6; have z7 := ga.cell 7; have z8 := ga.cell 8; have z9 := ga.cell 9; have z10 := ga.cell 10; simp at z0 z1 z2 z3 z4 z5 z6 z7 z8 z9 z10))))
        clear hb1 hs1 hr3
        go_upto_region 8 with (first | (go_at_call 38; (with_reducible refine (HRA.out _ hw).mono ?_); rintro _ V6 ⟨rfl, hb1⟩; (have hw := bl2 hw hb1; have ga := ga.below hb1 ga.lt; (have z0 := ga.cell 0; have z1 := ga.cell 1; have z2 := ga.cell 2; have z3 := ga.cell 3; have z4 := ga.cell 4; have z5 := ga.cell 5; have z6 := ga.cell 6; have z7 := ga.cell 7; have z8 := ga.cell 8; have z9 := ga.cell 9; have z10 := ga.cell 10; simp at z0 z1 z2 z3 z4 z5 z6 z7 z8 z9 z10))) | (go_at_call 21; (with_reducible refine (HRB.out _ hw).mono ?_); rintro _ V7 ⟨rfl, hb1⟩; (have hw := bl2 hw hb1; have ga := ga.below hb1 ga.lt; (have z0 := ga.cell 0; have z1 := ga.cell 1; have z2 := ga.cell 2; have z3 := ga.cell 3; have z4 := ga.cell 4; have z5 := ga.cell 5; have z6 := ga.cell 6; have z7 := ga.cell 7; have z8 := ga.cell 8; have z9 := ga.cell 9; have z10 := ga.cell 10; simp at z0 z1 z2 z3 z4 z5 z6 z7 z8 z9 z10))))
        clear hb1
        go_upto_region 12 with (go_at_call 28; (with_reducible refine (HDV.out _).mono ?_); rintro _ _ ⟨rfl, rfl⟩)
        have HDC3 := Lib.hid (fun W (hW : Below V7.heap.size V7 W) => HDC2.out W (bl2 hw hW))
        (refine wp_region_ext (by kernel_rfl) (by kernel_rfl) ?_; (repeat (go_big_quiet_step((first | (go_at_call 40; with_reducible exact Calls.ext_of (HOF2.out _)) | (go_at_call 39; with_reducible exact Calls.ext_of (HDC3.out _ (ext_below ⟨_, rfl⟩))))))); with_reducible refine wpQuiet_nil ?_; intro w1 hw1; have hb1 := ext_below hw1; clear hw1)
        have hw := bl2 hw hb1
        clear hb1 ga HDC3 HDC2 HOF2
        (clear z0 z1 z2 z3 z4 z5 z6 z7 z8 z9 z10)
        by_cases hn : di < 0
        · have t1 : decide (0 ≤ di) = false := decide_eq_false (by omega)
          obtain rfl : ok = false := by rw [HOKV.out, decide_eq_false (show ¬ 0 ≤ di by omega)]; rfl
          go_wp2_with (go_at_call 17; refine (known_any _).mono ?_; rintro _ V1 ⟨rfl, hb1⟩; have hw := bl2 hw hb1)
          refine bodyPost_ret (v := .bool true) (by simp [results, Try.results6, go_sem]) rfl ?_
          exact ⟨rfl, hw⟩
        · obtain ⟨n, rfl⟩ := Int.eq_ofNat_of_zero_le (show 0 ≤ di by omega)
          have t1 : decide ((0 : Int) ≤ (n : Int)) = true := decide_eq_true (by omega)
          have hnl : n < rs.length := by omega
          obtain ⟨ub, uo, rfl, hublk, hucell⟩ := (HRL.out.sl.below hw).at_ (k := n) (fun _ => rfl) hnl
          have HOK2 : Hid (ok = rs[n].allow) := (by rw [HOKV.out, decide_eq_true (show (0 : Int) ≤ (n : Int) by omega), Int.toNat_natCast, List.getElem?_eq_getElem hnl]; rfl : ok = _)
          have u1 : w1.cell? ⟨ub, uo + n * 2 + 1, none⟩ = some (.bool ok) := by rw [HOK2.out]; exact hucell 1 _ rfl
          have n0 : (0 : Int) ≤ (n : Int) := by omega
          have n1 : (n : Int) < (rs.length : Int) := by omega
          clear hucell
          go_wp2_with (go_at_call 17; refine (known_any _).mono ?_; rintro _ V1 ⟨rfl, hb1⟩; have hw := bl2 hw hb1)
          refine bodyPost_ret (v := .bool true) (by simp [results, Try.results6, go_sem]) rfl ?_
          exact ⟨rfl, hw⟩
    · have h3 := HR.out
      have n0 : (be == 0) = false := by simpa using hb0
      have n1 : (be != 0) = true := by simpa using hb0
      rw [HAW.out, ← HBE.out, if_neg hb0] at h3
      simp only [Prod.mk.injEq] at h3
      obtain ⟨rfl, rfl, rfl⟩ := h3
      cases ab with
      | true =>
        have ha2 : ae = 0 := by rw [HAE.out, HAE2.out, ← HAB.out]; rfl
        subst ha2
        clear HR HAW HALB HBZ HAB HAE HBE HAE2 HBE2 HOF HDC hb0
        obtain ⟨A, c, l, ⟨e, b, u⟩, ⟨d, p, f, m, y, s, k⟩⟩ := x
        simp only [Alm.cells] at *
        go_enter Try.func6, Try.ntmps6
        go_upto_region 1 with fail
        refine gen_w (fun W => Blk W w.heap.size #[.slice A l.length c, .int .i64 e, .int .i64 b, .int .i64 u, .int .i64 d, .int .i64 p, .int .i64 f, .int .i64 m, .int .i64 y, .int .i64 s, .int .i64 k] 28 ∧ Below w.heap.size w W) ⟨Blk.at_ rfl, by (repeat (first | exact Below.refl _ _ | assumption | (refine Below.alloc ?_ (by first | omega | (simp; omega) | (simp; done)) _) | (refine Below.setCell ?_ (by first | omega | (simp; omega) | (simp; done)) _) | (refine Below.drew ?_) | (refine belowN ?_ _) | (refine Below.trans ?_ (Below.mono ‹Below _ _ _› (by first | omega | (simp; omega) | (simp; done))))))⟩ ?_
        rintro V0 ⟨ga, hw⟩
        have z0 := ga.cell 0; have z1 := ga.cell 1; have z2 := ga.cell 2; have z3 := ga.cell 3; have z4 := ga.cell 4; have z5 := ga.cell 5; have z6 := ga.cell 6; have z7 := ga.cell 7; have z8 := ga.cell 8; have z9 := ga.cell 9; have z10 := ga.cell 10
        simp at z0 z1 z2 z3 z4 z5 z6 z7 z8 z9 z10
        go_upto_region 3 with (go_at_call 15; (with_reducible refine (HLG.out _ hw).mono ?_); rintro _ V1 ⟨rfl, hb1⟩; (have hw := bl2 hw hb1; have ga := ga.below hb1 ga.lt; (have z0 := ga.cell 0; have z1 := ga.cell 1; have z2 := ga.cell 2; have z3 := ga.cell 3; have z4 := ga.cell 4; have z5 := ga.cell 5; have z6 := ga.cell 6; have z7 := ga.cell 7; have z8 := ga.cell 8; have z9 := ga.cell 9; have z10 := ga.cell 10; simp at z0 z1 z2 z3 z4 z5 z6 z7 z8 z9 z10)))
        clear hb1
        go_upto_region 4 with (first | (go_at_call 19; (with_reducible refine (HOW.out _ hw).mono ?_); rintro _ V2 ⟨A1, q1, rfl, hs1, -, hb1⟩; (have hw := bl2 hw hb1; have ga := ga.below hb1 ga.lt; (have z0 := ga.cell 0; have z1 := ga.cell 1; have z2 := ga.cell 2; have z3 := ga.cell 3; have z4 := ga.cell 4; have z5 := ga.cell 5; have z6 := ga.cell 6; have z7 := ga.cell 7; have z8 := ga.cell 8; have z9 := ga.cell 9; have z10 := ga.cell 10; simp at z0 z1 z2 z3 z4 z5 z6 z7 z8 z9 z10))) | (go_at_call 36; (with_reducible refine (HCK.out _ _ _ hs1).mono ?_); rintro _ V3 ⟨rfl, hb1⟩; (have hw := bl2 hw hb1; have ga := ga.below hb1 ga.lt; (have z0 := ga.cell 0; have z1 := ga.cell 1; have z2 := ga.cell 2; have z3 := ga.cell 3; have z4 := ga.cell 4; have z5 := ga.cell 5; have z6 := ga.cell 6; have z7 := ga.cell 7; have z8 := ga.cell 8; have z9 := ga.cell 9; have z10 := ga.cell 10; simp at z0 z1 z2 z3 z4 z5 z6 z7 z8 z9 z10))))
        clear hb1 hs1
        go_upto_region 5 with (first | (go_at_call 19; (with_reducible refine (HOW.out _ hw).mono ?_); rintro _ V2 ⟨A1, q1, rfl, hs1, -, hb1⟩; (have hw := bl2 hw hb1; have ga := ga.below hb1 ga.lt; (have z0 := ga.cell 0; have z1 := ga.cell 1; have z2 := ga.cell 2; have z3 := ga.cell 3; have z4 := ga.cell 4; have z5 := ga.cell 5; have z6 := ga.cell 6; have z7 := ga.cell 7; have z8 := ga.cell 8; have z9 := ga.cell 9; have z10 := ga.cell 10; simp at z0 z1 z2 z3 z4 z5 z6 z7 z8 z9 z10))) | (go_at_call 20; (with_reducible refine (HRU2.out _ hw).mono ?_); rintro _ V4 ⟨A3, q3, l', rfl, hpl, hown3, hrow3, hb1⟩; have hs1 := (hs1.below hb1).more hb1.size; have hr3 := RetRls.at_ hown3.out hrow3 (by rw [len_pl hpl]; omega); have HP3 := Lib.hid hpl; clear hpl hown3 hrow3; (have hw := bl2 hw hb1; have ga := ga.below hb1 ga.lt; (have z0 := ga.cell 0; have z1 := ga.cell 1; have z2 := ga.cell 2; have z3 := ga.cell 3; have z4 := ga.cell 4; have z5 := ga.cell 5; have z6 := ga.cell 6; have z7 := ga.cell 7; have z8 := ga.cell 8; have z9 := ga.cell 9; have z10 := ga.cell 10; simp at z0 z1 z2 z3 z4 z5 z6 z7 z8 z9 z10))) | (go_at_call 37; (with_reducible refine (HAL.out _ _ _ _ _ _ hs1 hr3 HP3.out).mono ?_); rintro _ V5 ⟨rfl, hb1⟩; (have hw := bl2 hw hb1; have ga := ga.below hb1 ga.lt; (have z0 := ga.cell 0; have z1 := ga.cell 1; have z2 := ga.cell 2; have z3 := ga.cell 3; have z4 := ga.cell 4; have z5 := ga.cell 5; have z6 := ga.cell 6; have z7 := ga.cell 7; have z8 := ga.cell 8; have z9 := ga.cell 9; have z10 := ga.cell 10; simp at z0 z1 z2 z3 z4 z5 z6 z7 z8 z9 z10))))
        clear hb1 hs1 hr3
        go_upto_region 8 with (first | (go_at_call 38; (with_reducible refine (HRA.out _ hw).mono ?_); rintro _ V6 ⟨rfl, hb1⟩; (have hw := bl2 hw hb1; have ga := ga.below hb1 ga.lt; (have z0 := ga.cell 0; have z1 := ga.cell 1; have z2 := ga.cell 2; have z3 := ga.cell 3; have z4 := ga.cell 4; have z5 := ga.cell 5; have z6 := ga.cell 6; have z7 := ga.cell 7; have z8 := ga.cell 8; have z9 := ga.cell 9; have z10 := ga.cell 10; simp at z0 z1 z2 z3 z4 z5 z6 z7 z8 z9 z10))) | (go_at_call 21; (with_reducible refine (HRB.out _ hw).mono ?_); rintro _ V7 ⟨rfl, hb1⟩; (have hw := bl2 hw hb1; have ga := ga.below hb1 ga.lt; (have z0 := ga.cell 0; have z1 := ga.cell 1; have z2 := ga.cell 2; have z3 := ga.cell 3; have z4 := ga.cell 4; have z5 := ga.cell 5; have z6 := ga.cell 6; have z7 := ga.cell 7; have z8 := ga.cell 8; have z9 := ga.cell 9; have z10 := ga.cell 10; simp at z0 z1 z2 z3 z4 z5 z6 z7 z8 z9 z10))))
        clear hb1
        go_wp2_with (go_at_call 17; refine (known_any _).mono ?_; rintro _ V1 ⟨rfl, hb1⟩; have hw := bl2 hw hb1)
        refine bodyPost_ret (v := .bool true) (by simp [results, Try.results6, go_sem]) rfl ?_
        exact ⟨rfl, hw⟩
      | false =>
        have ha2 : ae = 2 := by rw [HAE.out, HAE2.out, ← HAB.out]; rfl
        subst ha2
        clear HR HAW HALB HBZ HAB HAE HBE HAE2 HBE2 HOF HDC hb0
        obtain ⟨A, c, l, ⟨e, b, u⟩, ⟨d, p, f, m, y, s, k⟩⟩ := x
        simp only [Alm.cells] at *
        go_enter Try.func6, Try.ntmps6
        go_upto_region 1 with fail
        refine gen_w (fun W => Blk W w.heap.size #[.slice A l.length c, .int .i64 e, .int .i64 b, .int .i64 u, .int .i64 d, .int .i64 p, .int .i64 f, .int .i64 m, .int .i64 y, .int .i64 s, .int .i64 k] 28 ∧ Below w.heap.size w W) ⟨Blk.at_ rfl, by (repeat (first | exact Below.refl _ _ | assumption | (refine Below.alloc ?_ (by first | omega | (simp; omega) | (simp; done)) _) | (refine Below.setCell ?_ (by first | omega | (simp; omega) | (simp; done)) _) | (refine Below.drew ?_) | (refine belowN ?_ _) | (refine Below.trans ?_ (Below.mono ‹Below _ _ _› (by first | omega | (simp; omega) | (simp; done))))))⟩ ?_
        rintro V0 ⟨ga, hw⟩
        have z0 := ga.cell 0; have z1 := ga.cell 1; have z2 := ga.cell 2; have z3 := ga.cell 3; have z4 := ga.cell 4; have z5 := ga.cell 5; have z6 := ga.cell 6; have z7 := ga.cell 7; have z8 := ga.cell 8; have z9 := ga.cell 9; have z10 := ga.cell 10
        simp at z0 z1 z2 z3 z4 z5 z6 z7 z8 z9 z10
        go_upto_region 3 with (go_at_call 15; (with_reducible refine (HLG.out _ hw).mono ?_); rintro _ V1 ⟨rfl, hb1⟩; (have hw := bl2 hw hb1; have ga := ga.below hb1 ga.lt; (have z0 := ga.cell 0; have z1 := ga.cell 1; have z2 := ga.cell 2; have z3 := ga.cell 3; have z4 := ga.cell 4; have z5 := ga.cell 5; have z6 := ga.cell 6; have z7 := ga.cell 7; have z8 := ga.cell 8; have z9 := ga.cell 9; have z10 := ga.cell 10; simp at z0 z1 z2 z3 z4 z5 z6 z7 z8 z9 z10)))
        clear hb1
        go_upto_region 4 with (first | (go_at_call 19; (with_reducible refine (HOW.out _ hw).mono ?_); rintro _ V2 ⟨A1, q1, rfl, hs1, -, hb1⟩; (have hw := bl2 hw hb1; have ga := ga.below hb1 ga.lt; (have z0 := ga.cell 0; have z1 := ga.cell 1; have z2 := ga.cell 2; have z3 := ga.cell 3; have z4 := ga.cell 4; have z5 := ga.cell 5; have z6 := ga.cell 6; have z7 := ga.cell 7; have z8 := ga.cell 8; have z9 := ga.cell 9; have z10 := ga.cell 10; simp at z0 z1 z2 z3 z4 z5 z6 z7 z8 z9 z10))) | (go_at_call 36; (with_reducible refine (HCK.out _ _ _ hs1).mono ?_); rintro _ V3 ⟨rfl, hb1⟩; (have hw := bl2 hw hb1; have ga := ga.below hb1 ga.lt; (have z0 := ga.cell 0; have z1 := ga.cell 1; have z2 := ga.cell 2; have z3 := ga.cell 3; have z4 := ga.cell 4; have z5 := ga.cell 5; have z6 := ga.cell 6; have z7 := ga.cell 7; have z8 := ga.cell 8; have z9 := ga.cell 9; have z10 := ga.cell 10; simp at z0 z1 z2 z3 z4 z5 z6 z7 z8 z9 z10))))
        clear hb1 hs1
        go_upto_region 5 with (first | (go_at_call 19; (with_reducible refine (HOW.out _ hw).mono ?_); rintro _ V2 ⟨A1, q1, rfl, hs1, -, hb1⟩; (have hw := bl2 hw hb1; have ga := ga.below hb1 ga.lt; (have z0 := ga.cell 0; have z1 := ga.cell 1; have z2 := ga.cell 2; have z3 := ga.cell 3; have z4 := ga.cell 4; have z5 := ga.cell 5; have z6 := ga.cell 6; have z7 := ga.cell 7; have z8 := ga.cell 8; have z9 := ga.cell 9; have z10 := ga.cell 10; simp at z0 z1 z2 z3 z4 z5 z6 z7 z8 z9 z10))) | (go_at_call 20; (with_reducible refine (HRU2.out _ hw).mono ?_); rintro _ V4 ⟨A3, q3, l', rfl, hpl, hown3, hrow3, hb1⟩; have hs1 := (hs1.below hb1).more hb1.size; have hr3 := RetRls.at_ hown3.out hrow3 (by rw [len_pl hpl]; omega); have HP3 := Lib.hid hpl; clear hpl hown3 hrow3; (have hw := bl2 hw hb1; have ga := ga.below hb1 ga.lt; (have z0 := ga.cell 0; have z1 := ga.cell 1; have z2 := ga.cell 2; have z3 := ga.cell 3; have z4 := ga.cell 4; have z5 := ga.cell 5; have z6 := ga.cell 6; have z7 := ga.cell 7; have z8 := ga.cell 8; have z9 := ga.cell 9; have z10 := ga.cell 10; simp at z0 z1 z2 z3 z4 z5 z6 z7 z8 z9 z10))) | (go_at_call 37; (with_reducible refine (HAL.out _ _ _ _ _ _ hs1 hr3 HP3.out).mono ?_); rintro _ V5 ⟨rfl, hb1⟩; (have hw := bl2 hw hb1; have ga := ga.below hb1 ga.lt; (have z0 := ga.cell 0; have z1 := ga.cell 1; have z2 := ga.cell 2; have z3 := ga.cell 3; have z4 := ga.cell 4; have z5 := ga.cell 5; have z6 := ga.cell 6; have z7 := ga.cell 7; have z8 := ga.cell 8; have z9 := ga.cell 9; have z10 := ga.cell 10; simp at z0 z1 z2 z3 z4 z5 z6 z7 z8 z9 z10))))
        clear hb1 hs1 hr3
        go_upto_region 8 with (first | (go_at_call 38; (with_reducible refine (HRA.out _ hw).mono ?_); rintro _ V6 ⟨rfl, hb1⟩; (have hw := bl2 hw hb1; have ga := ga.below hb1 ga.lt; (have z0 := ga.cell 0; have z1 := ga.cell 1; have z2 := ga.cell 2; have z3 := ga.cell 3; have z4 := ga.cell 4; have z5 := ga.cell 5; have z6 := ga.cell 6; have z7 := ga.cell 7; have z8 := ga.cell 8; have z9 := ga.cell 9; have z10 := ga.cell 10; simp at z0 z1 z2 z3 z4 z5 z6 z7 z8 z9 z10))) | (go_at_call 21; (with_reducible refine (HRB.out _ hw).mono ?_); rintro _ V7 ⟨rfl, hb1⟩; (have hw := bl2 hw hb1; have ga := ga.below hb1 ga.lt; (have z0 := ga.cell 0; have z1 := ga.cell 1; have z2 := ga.cell 2; have z3 := ga.cell 3; have z4 := ga.cell 4; have z5 := ga.cell 5; have z6 := ga.cell 6; have z7 := ga.cell 7; have z8 := ga.cell 8; have z9 := ga.cell 9; have z10 := ga.cell 10; simp at z0 z1 z2 z3 z4 z5 z6 z7 z8 z9 z10))))
        clear hb1
        go_wp2_with (go_at_call 17; refine (known_any _).mono ?_; rintro _ V1 ⟨rfl, hb1⟩; have hw := bl2 hw hb1)
        refine bodyPost_ret (v := .bool true) (by simp [results, Try.results6, go_sem]) rfl ?_
        exact ⟨rfl, hw⟩
set_option maxRecDepth 100000 in
set_option maxHeartbeats 4000000 in
theorem lwallows_w (x : Alm) (A2 : Option Addr) (c2 : Nat) (rs : List DRl) (day : Int) (w : World) (hz : x.a = none → x.c = 0) (hcx : Sl Cyc.cells 2 w w.heap.size x.a x.cycles) (hr : RlsW w w.heap.size A2 rs) :
    Calls Try.prog 6 #[.agg x.cells.toArray, .slice A2 rs.length c2, .int .i64 day] w fun en w' => en = .returned (.bool true) ∧ Below w.heap.size w w' := by
  cases hlg : largeB x rs with
  | false =>
    obtain ⟨h1, h2, h3⟩ := not_large hlg
    exact lwallows_any x A2 c2 rs day w hz (by omega) hcx ⟨hr.at_ (by omega) (fun r h => by have := h3 r h; omega), fun r h => (hr.rul r h).nil⟩
  | true =>
    have HLG := Lib.hid (fun W (hW : Below w.heap.size w W) => large_any x A2 c2 rs W ((hr.below hW).more hW.size))
    rw [hlg] at HLG
    clear hlg hr hcx hz
    obtain ⟨A, c, l, ⟨e, b, u⟩, ⟨d, p, f, m, y, s, k⟩⟩ := x
    simp only [Alm.cells] at *
    go_enter Try.func6, Try.ntmps6
    go_upto_region 1 with fail
    refine gen_w (fun W => Blk W w.heap.size #[.slice A l.length c, .int .i64 e, .int .i64 b, .int .i64 u, .int .i64 d, .int .i64 p, .int .i64 f, .int .i64 m, .int .i64 y, .int .i64 s, .int .i64 k] 28 ∧ Below w.heap.size w W) ⟨Blk.at_ rfl, by (repeat (first | exact Below.refl _ _ | assumption | (refine Below.alloc ?_ (by first | omega | (simp; omega) | (simp; done)) _) | (refine Below.setCell ?_ (by first | omega | (simp; omega) | (simp; done)) _) | (refine Below.drew ?_) | (refine belowN ?_ _) | (refine Below.trans ?_ (Below.mono ‹Below _ _ _› (by first | omega | (simp; omega) | (simp; done))))))⟩ ?_
    rintro V0 ⟨ga, hw⟩
    have z0 := ga.cell 0; have z1 := ga.cell 1; have z2 := ga.cell 2; have z3 := ga.cell 3; have z4 := ga.cell 4; have z5 := ga.cell 5; have z6 := ga.cell 6; have z7 := ga.cell 7; have z8 := ga.cell 8; have z9 := ga.cell 9; have z10 := ga.cell 10
    simp at z0 z1 z2 z3 z4 z5 z6 z7 z8 z9 z10
    go_wp2_with (first | (go_at_call 15; (with_reducible refine (HLG.out _ hw).mono ?_); rintro _ V1 ⟨rfl, hb1⟩; (have hw := bl2 hw hb1; have ga := ga.below hb1 ga.lt; (have z0 := ga.cell 0; have z1 := ga.cell 1; have z2 := ga.cell 2; have z3 := ga.cell 3; have z4 := ga.cell 4; have z5 := ga.cell 5; have z6 := ga.cell 6; have z7 := ga.cell 7; have z8 := ga.cell 8; have z9 := ga.cell 9; have z10 := ga.cell 10; simp at z0 z1 z2 z3 z4 z5 z6 z7 z8 z9 z10))) | (go_at_call 17; refine (known_any _).mono ?_; rintro _ V1 ⟨rfl, hb1⟩; have hw := bl2 hw hb1))
    refine bodyPost_ret (v := .bool true) (by simp [results, Try.results6, go_sem]) rfl ?_
    exact ⟨rfl, hw⟩
end Go.Proofs.Ytfbnllmmoaialaa

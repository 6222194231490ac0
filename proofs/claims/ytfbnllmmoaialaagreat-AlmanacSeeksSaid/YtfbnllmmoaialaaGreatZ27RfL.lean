/- almanac: the reference's Test. -/
import Derived.Test.YtfbnllmmoaialaaGreatZ21RfB
import Derived.Deep.DeepCutAuto
namespace Go.Proofs.YtfbnllmmoaialaaGreat
open Go.RowKit

set_option maxRecDepth 100000 in
set_option maxHeartbeats 4000000 in
theorem rtest_any (A : Option Addr) (c : Nat) (l : List Cyc) (e b u d p f m y s k : Int) (kd wh st fr to_ : Int) (w : World) (hl : l.length ≤ 8) (hc : ∀ x ∈ l, cycB x = true) (hs : 0 ≤ st ∧ st < 18446744073709551616) (hr : Sl Cyc.cells 2 w w.heap.size A l) :
    Calls Tryz.prog 56 #[.agg #[.slice A l.length c, .int .i64 e, .int .i64 b, .int .i64 u, .int .i64 d, .int .i64 p, .int .i64 f, .int .i64 m, .int .i64 y, .int .i64 s, .int .i64 k], .agg #[.int .i64 kd, .int .i64 wh, .int .u64 st, .int .i64 fr, .int .i64 to_]] w fun en w' => en = .returned (.bool (tstB l ⟨kd, wh, st, fr, to_⟩)) ∧ Below w.heap.size w w' := by
  have HR := Lib.hid hr; have HC := Lib.hid hc
  have HSB := Lib.hid hs
  clear hr hc hs
  obtain ⟨pl, hpl⟩ : ∃ v, v = ((wh == 0) && ((fr == 0) && (to_ == 0))) := ⟨_, rfl⟩
  have HPL := Lib.hid hpl
  clear hpl
  go_enter Tryz.func56, Tryz.ntmps56
  go_upto_region 1 with fail
  refine gen_w (fun W => Blk W w.heap.size #[.slice A l.length c, .int .i64 e, .int .i64 b, .int .i64 u, .int .i64 d, .int .i64 p, .int .i64 f, .int .i64 m, .int .i64 y, .int .i64 s, .int .i64 k] 28 ∧ Blk W (w.heap.size + 1) #[.int .i64 kd, .int .i64 wh, .int .u64 st, .int .i64 fr, .int .i64 to_] 90 ∧ Below w.heap.size w W) ⟨(Blk.at_ rfl).alloc _, Blk.at_ (by simp), by (repeat (first | exact Below.refl _ _ | assumption | (refine Below.alloc ?_ (by first | omega | (simp; omega) | (simp; done)) _) | (refine Below.setCell ?_ (by first | omega | (simp; omega) | (simp; done)) _) | (refine Below.drew ?_) | (refine belowN ?_ _) | (refine Below.trans ?_ (Below.mono ‹Below _ _ _› (by first | omega | (simp; omega) | (simp; done))))))⟩ ?_
  rintro V0 ⟨ga, gt, hw⟩
  (have t0 := gt.cell 0; have t1 := gt.cell 1; have t2 := gt.cell 2; have t3 := gt.cell 3; have t4 := gt.cell 4; simp at t0 t1 t2 t3 t4)
  (have z0 := ga.cell 0; simp at z0)
  go_cut [5] (fun s5 wx => s5 = .bool pl ∧ V0 = wx)
  case first =>
    have hpl := HPL.out
    clear HPL
    cases z1 : (wh == 0) with
    | false =>
      rw [z1] at hpl; simp at hpl; subst hpl
      go_wp2_with fail
      go_meet
      exact ⟨rfl, rfl⟩
    | true =>
      cases z2 : (fr == 0) with
      | false =>
        rw [z1, z2] at hpl; simp at hpl; subst hpl
        go_wp2_with fail
        go_meet
        exact ⟨rfl, rfl⟩
      | true =>
        cases z3 : (to_ == 0) with
        | false =>
          rw [z1, z2, z3] at hpl; simp at hpl; subst hpl
          go_wp2_with fail
          go_meet
          exact ⟨rfl, rfl⟩
        | true =>
          rw [z1, z2, z3] at hpl; simp at hpl; subst hpl
          go_wp2_with fail
          go_meet
          exact ⟨rfl, rfl⟩
  case rest =>
    obtain ⟨rfl, rfl⟩ := hcut
    by_cases k1 : kd = 1
    · subst k1
      go_upto_region 4 with fail
      cases hin : inB wh 0 ((l.length : Int) - 1) with
      | false =>
        have HIN := Lib.hid (fun W => rin_val hin W)
        have HT : Hid (tstB l ⟨1, wh, st, fr, to_⟩ = false) := (by simp [tstB, hin] : tstB l _ = false)
        clear hin
        have v0 : IntKind.i64.wrap ((l.length : Int) - 1) = (l.length : Int) - 1 := IntWalk.i64_in _ ⟨by omega, by omega⟩
        (refine wp_region_ext (by kernel_rfl) (by kernel_rfl) ?_; (repeat (go_big_quiet_step((go_at_call 31; with_reducible exact Calls.ext_same (HIN.out _))))); with_reducible refine wpQuiet_nil ?_; intro w1 hw1; have hb1 := ext_below hw1; clear hw1)
        have hw := bl2 hw hb1
        go_wp2_with fail
        go_ret
        exact ⟨ret_bool HT.out.symm, hw⟩
      | true =>
        obtain ⟨i0, i1⟩ := inB_iff.1 hin
        have HIN := Lib.hid (fun W => rin_val hin W)
        have v0 : IntKind.i64.wrap ((l.length : Int) - 1) = (l.length : Int) - 1 := IntWalk.i64_in _ ⟨by omega, by omega⟩
        obtain ⟨j, rfl⟩ := Int.eq_ofNat_of_zero_le i0
        have hj : j < l.length := by omega
        cases z2 : (fr == 0) with
        | false =>
          have HT : Hid (tstB l ⟨1, (j : Int), st, fr, to_⟩ = false) := (by simp [tstB, z2] : tstB l _ = false)
          clear hin
          (refine wp_region_ext (by kernel_rfl) (by kernel_rfl) ?_; (repeat (go_big_quiet_step((go_at_call 31; with_reducible exact Calls.ext_same (HIN.out _))))); with_reducible refine wpQuiet_nil ?_; intro w1 hw1; have hb1 := ext_below hw1; clear hw1)
          have hw := bl2 hw hb1
          go_wp2_with fail
          go_ret
          exact ⟨ret_bool HT.out.symm, hw⟩
        | true =>
          cases z3 : (to_ == 0) with
          | false =>
            have HT : Hid (tstB l ⟨1, (j : Int), st, fr, to_⟩ = false) := (by simp [tstB, z3] : tstB l _ = false)
            clear hin
            (refine wp_region_ext (by kernel_rfl) (by kernel_rfl) ?_; (repeat (go_big_quiet_step((go_at_call 31; with_reducible exact Calls.ext_same (HIN.out _))))); with_reducible refine wpQuiet_nil ?_; intro w1 hw1; have hb1 := ext_below hw1; clear hw1)
            have hw := bl2 hw hb1
            go_wp2_with fail
            go_ret
            exact ⟨ret_bool HT.out.symm, hw⟩
          | true =>
            obtain ⟨ab, ao, rfl, hblk, hcell⟩ := (HR.out.below hw).at_ (k := j) (fun _ => rfl) hj
            have hcy := HC.out _ (List.getElem_mem hj)
            have HT0 : Hid (tstB l ⟨1, (j : Int), st, fr, to_⟩ = subB st (18446744073709551615 / 2 ^ (64 - l[j].l).toNat)) := (by
              simp only [tstB, hin, z2, z3, Int.toNat_natCast, List.getElem?_eq_getElem hj, if_true, Bool.true_and, Bool.and_true] : tstB l _ = _)
            obtain ⟨q, hq⟩ : ∃ q, q = l[j] := ⟨_, rfl⟩
            rw [← hq] at hcell hcy HT0
            obtain ⟨ql, qs⟩ := q
            obtain ⟨⟨l1, l2⟩, -⟩ := cycB_iff.1 hcy
            simp only at l1 l2 HT0
            have e0 : V0.cell? ⟨ab, ao + j * 2, none⟩ = some (.int .i64 ql) := hcell 0 _ rfl
            have HSET := Lib.hid (fun W => rset_any st 0 (ql - 1) W HSB.out)
            have HT : Hid (tstB l ⟨1, (j : Int), st, fr, to_⟩ = setB st 0 (ql - 1)) := (by rw [HT0.out, subL HSB.out l1 l2] : tstB l _ = _)
            obtain ⟨v, hv⟩ : ∃ v, v = setB st 0 (ql - 1) := ⟨_, rfl⟩
            rw [← hv] at HSET HT
            have v1 : IntKind.i64.wrap (ql - 1) = ql - 1 := IntWalk.i64_in _ ⟨by omega, by omega⟩
            have j0 : (0 : Int) ≤ (j : Int) := by omega
            have j1 : (j : Int) < (l.length : Int) := by omega
            clear hcell hcy hq hv hin HT0
            (refine wp_region_ext (by kernel_rfl) (by kernel_rfl) ?_; (repeat (go_big_quiet_step((first | (go_at_call 31; with_reducible exact Calls.ext_same (HIN.out _)) | (go_at_call 88; with_reducible exact Calls.ext_of (HSET.out _)))))); with_reducible refine wpQuiet_nil ?_; intro w1 hw1; have hb1 := ext_below hw1; clear hw1)
            have hw := bl2 hw hb1
            go_wp2_with fail
            go_ret
            exact ⟨ret_bool HT.out.symm, hw⟩
    · have n1 : (kd == 1) = false := by simpa using k1
      by_cases k2 : kd = 2 ∨ kd = 4
      · have HSET := Lib.hid (fun W => rset_any st 1 12 W HSB.out)
        obtain ⟨v, hv⟩ : ∃ v, v = setB st 1 12 := ⟨_, rfl⟩
        rw [← hv] at HSET
        have HT0 : Hid (tstB l ⟨kd, wh, st, fr, to_⟩ = (pl && v)) := (by
          rw [HPL.out, hv, ← sub12 HSB.out]; simp only [tstB, if_neg k1, if_pos k2, Bool.and_assoc] : tstB l _ = _)
        clear hv
        cases pl with
        | false =>
          have HT : Hid (tstB l ⟨kd, wh, st, fr, to_⟩ = false) := HT0
          rcases k2 with rfl | rfl <;> (go_wp2_with (go_at_call 88; (with_reducible refine (HSET.out _).mono ?_); rintro _ W3 ⟨rfl, hb3⟩; have hw := bl2 hw hb3); go_ret; exact ⟨ret_bool HT.out.symm, hw⟩)
        | true =>
          have HT : Hid (tstB l ⟨kd, wh, st, fr, to_⟩ = v) := HT0
          rcases k2 with rfl | rfl <;> (go_wp2_with (go_at_call 88; (with_reducible refine (HSET.out _).mono ?_); rintro _ W3 ⟨rfl, hb3⟩; have hw := bl2 hw hb3); go_ret; exact ⟨ret_bool HT.out.symm, hw⟩)
      · have n2 : (kd == 2) = false := by simp; omega
        have n4 : (kd == 4) = false := by simp; omega
        by_cases k3 : kd = 3 ∨ kd = 5
        · have HSET := Lib.hid (fun W => rset_any st 1 31 W HSB.out)
          obtain ⟨v, hv⟩ : ∃ v, v = setB st 1 31 := ⟨_, rfl⟩
          rw [← hv] at HSET
          have HT0 : Hid (tstB l ⟨kd, wh, st, fr, to_⟩ = (pl && v)) := (by
            rw [HPL.out, hv, ← sub31 HSB.out]; simp only [tstB, if_neg k1, if_neg k2, if_pos k3, Bool.and_assoc] : tstB l _ = _)
          clear hv
          cases pl with
          | false =>
            have HT : Hid (tstB l ⟨kd, wh, st, fr, to_⟩ = false) := HT0
            rcases k3 with rfl | rfl <;> (go_wp2_with (go_at_call 88; (with_reducible refine (HSET.out _).mono ?_); rintro _ W3 ⟨rfl, hb3⟩; have hw := bl2 hw hb3); go_ret; exact ⟨ret_bool HT.out.symm, hw⟩)
          | true =>
            have HT : Hid (tstB l ⟨kd, wh, st, fr, to_⟩ = v) := HT0
            rcases k3 with rfl | rfl <;> (go_wp2_with (go_at_call 88; (with_reducible refine (HSET.out _).mono ?_); rintro _ W3 ⟨rfl, hb3⟩; have hw := bl2 hw hb3); go_ret; exact ⟨ret_bool HT.out.symm, hw⟩)
        · have n3 : (kd == 3) = false := by simp; omega
          have n5 : (kd == 5) = false := by simp; omega
          by_cases k6 : kd = 6
          · subst k6
            cases hv : (st == 0) with
            | false =>
              have HT : Hid (tstB l ⟨6, wh, st, fr, to_⟩ = false) := (by simp [tstB, sub0 HSB.out, hv] : tstB l _ = _)
              cases pl <;> (go_wp2_with (go_at_call 88; (with_reducible refine (HSET.out _).mono ?_); rintro _ W3 ⟨rfl, hb3⟩; have hw := bl2 hw hb3); go_ret; exact ⟨ret_bool HT.out.symm, hw⟩)
            | true =>
              have HT : Hid (tstB l ⟨6, wh, st, fr, to_⟩ = pl) := (by rw [HPL.out]; simp [tstB, sub0 HSB.out, hv, Bool.and_assoc] : tstB l _ = _)
              cases pl <;> (go_wp2_with (go_at_call 88; (with_reducible refine (HSET.out _).mono ?_); rintro _ W3 ⟨rfl, hb3⟩; have hw := bl2 hw hb3); go_ret; exact ⟨ret_bool HT.out.symm, hw⟩)
          · have n6 : (kd == 6) = false := by simpa using k6
            by_cases k7 : kd = 7
            · subst k7
              cases z1 : (wh == 0) with
              | false =>
                have HT : Hid (tstB l ⟨7, wh, st, fr, to_⟩ = false) := (by simp [tstB, z1] : tstB l _ = _)
                (go_wp2_with (go_at_call 88; (with_reducible refine (HSET.out _).mono ?_); rintro _ W3 ⟨rfl, hb3⟩; have hw := bl2 hw hb3); go_ret; exact ⟨ret_bool HT.out.symm, hw⟩)
              | true =>
                cases z2 : (st == 0) with
                | false =>
                  have HT : Hid (tstB l ⟨7, wh, st, fr, to_⟩ = false) := (by simp [tstB, sub0 HSB.out, z2] : tstB l _ = _)
                  (go_wp2_with (go_at_call 88; (with_reducible refine (HSET.out _).mono ?_); rintro _ W3 ⟨rfl, hb3⟩; have hw := bl2 hw hb3); go_ret; exact ⟨ret_bool HT.out.symm, hw⟩)
                | true =>
                  cases h1 : inB fr 0 1000000 with
                  | false =>
                    have HDA := Lib.hid (fun W => rday_val h1 W)
                    have HT : Hid (tstB l ⟨7, wh, st, fr, to_⟩ = false) := (by simp [tstB, h1] : tstB l _ = _)
                    clear h1
                    go_wp2_with (first | (go_at_call 30; (with_reducible refine (HDA.out _).mono ?_); rintro _ _ ⟨rfl, rfl⟩) | (go_at_call 30; (with_reducible refine (HDB.out _).mono ?_); rintro _ _ ⟨rfl, rfl⟩))
                    go_ret
                    exact ⟨ret_bool HT.out.symm, hw⟩
                  | true =>
                    have HDA := Lib.hid (fun W => rday_val h1 W)
                    have HDB := Lib.hid (fun W => rday_any to_ W)
                    obtain ⟨v, hv⟩ : ∃ v, v = inB to_ 0 1000000 := ⟨_, rfl⟩
                    rw [← hv] at HDB
                    have HT : Hid (tstB l ⟨7, wh, st, fr, to_⟩ = v) := (by simp [tstB, h1, z1, sub0 HSB.out, z2, hv] : tstB l _ = _)
                    clear h1 hv
                    go_wp2_with (first | (go_at_call 30; (with_reducible refine (HDA.out _).mono ?_); rintro _ _ ⟨rfl, rfl⟩) | (go_at_call 30; (with_reducible refine (HDB.out _).mono ?_); rintro _ _ ⟨rfl, rfl⟩))
                    go_ret
                    exact ⟨ret_bool HT.out.symm, hw⟩
            · have n7 : (kd == 7) = false := by simpa using k7
              have HT : Hid (tstB l ⟨kd, wh, st, fr, to_⟩ = false) := (by simp only [tstB, if_neg k1, if_neg k2, if_neg k3, if_neg k6, if_neg k7] : tstB l _ = _)
              clear k1 k2 k3 k6 k7
              go_wp2_with fail
              go_ret
              exact ⟨ret_bool HT.out.symm, hw⟩
end Go.Proofs.YtfbnllmmoaialaaGreat
namespace Go.Proofs.YtfbnllmmoaialaaGreat
open Go.RowKit

set_option maxRecDepth 100000 in
set_option maxHeartbeats 4000000 in
theorem rrules_any (x : Alm) (A2 : Option Addr) (c2 : Nat) (rs : List DRl) (w : World) (hx : almB x = true) (hcx : Sl Cyc.cells 2 w w.heap.size x.a x.cycles) (hr : RlsAt w w.heap.size A2 rs) :
    Calls Tryz.prog 29 #[.agg x.cells.toArray, .slice A2 rs.length c2] w fun e w' => e = .returned (.int .i64 (chkE x.cycles rs)) ∧ Below w.heap.size w w' := by
  have hlen := hr.len
  have HRL := Lib.hid hr
  by_cases h30 : 30 < rs.length
  · have d1 : decide (30 < (rs.length : Int)) = true := by simp; omega
    have HT : Hid (chkE x.cycles rs = 5) := (by simp [chkE, h30] : chkE x.cycles rs = 5)
    clear hr hcx
    obtain ⟨A, c, l, ⟨e, b, u⟩, ⟨d, p, f, m, y, s, k⟩⟩ := x
    simp only [Alm.cells]
    go_enter Tryz.func29, Tryz.ntmps29
    go_wp2
    refine bodyPost_ret (v := .int .i64 5) (by simp [results, Tryz.results29, go_sem]) rfl ?_
    rw [HT.out]
    exact ⟨rfl, by (repeat (first | exact Below.refl _ _ | assumption | (refine Below.alloc ?_ (by first | omega | (simp; omega) | (simp; done)) _) | (refine Below.setCell ?_ (by first | omega | (simp; omega) | (simp; done)) _) | (refine Below.drew ?_) | (refine belowN ?_ _) | (refine Below.trans ?_ (Below.mono ‹Below _ _ _› (by first | omega | (simp; omega) | (simp; done))))))⟩
  · have d1 : decide (30 < (rs.length : Int)) = false := by simp; omega
    obtain ⟨A, c, l, ⟨e, b, u⟩, ⟨d, p, f, m, y, s, k⟩⟩ := x
    simp only [almB, Bool.and_eq_true, decide_eq_true_eq, List.all_eq_true] at hx
    obtain ⟨⟨⟨hl, hc⟩, -⟩, -⟩ := hx
    simp only at hcx
    have HCC := Lib.hid hc
    have HCX := Lib.hid hcx
    have HE := Lib.hid h30
    clear hr hcx h30 hc
    simp only [Alm.cells]
    go_enter Tryz.func29, Tryz.ntmps29
    go_upto_region 4 with fail
    refine gen_w (fun W => Blk W w.heap.size #[.slice A l.length c, .int .i64 e, .int .i64 b, .int .i64 u, .int .i64 d, .int .i64 p, .int .i64 f, .int .i64 m, .int .i64 y, .int .i64 s, .int .i64 k] 28 ∧ Below w.heap.size w W) ⟨Blk.at_ rfl, by (repeat (first | exact Below.refl _ _ | assumption | (refine Below.alloc ?_ (by first | omega | (simp; omega) | (simp; done)) _) | (refine Below.setCell ?_ (by first | omega | (simp; omega) | (simp; done)) _) | (refine Below.drew ?_) | (refine belowN ?_ _) | (refine Below.trans ?_ (Below.mono ‹Below _ _ _› (by first | omega | (simp; omega) | (simp; done))))))⟩ ?_
    rintro V0 ⟨ga, hw⟩
    go_loopw [5, 6] (fun i _ wr => ∃ q : Nat, q ≤ rs.length ∧ i = .int .i64 q ∧ Hid (∀ r ∈ rs.take q, badR l r = false) ∧ Hid (Below w.heap.size w wr) ∧ Blk wr w.heap.size #[.slice A l.length c, .int .i64 e, .int .i64 b, .int .i64 u, .int .i64 d, .int .i64 p, .int .i64 f, .int .i64 m, .int .i64 y, .int .i64 s, .int .i64 k] 28) (fun i _ _ => rs.length - (intOf i).toNat)
    case atStart => exact ⟨0, by omega, rfl, (fun _ h => (by cases h) : ∀ r ∈ rs.take 0, badR l r = false), hw, ga⟩
    case round =>
      clear hw ga
      obtain ⟨q, hq, rfl, HB, hbw, ga⟩ := hrel
      have hw := hbw.out
      clear hbw
      by_cases hlt : q < rs.length
      · have hrul := HRL.out.rul _ (List.getElem_mem hlt)
        obtain ⟨rb, ro, rfl, hrblk, hrcell⟩ := (HRL.out.sl.below hw).at_ (k := q) (fun _ => rfl) hlt
        have HZ : Hid (rs.take (q + 1) = rs.take q ++ [rs[q]]) := (List.take_succ_eq_append_getElem hlt : _ = _)
        have HMEM := Lib.hid (List.getElem_mem hlt)
        obtain ⟨r, hre⟩ : ∃ r, r = rs[q] := ⟨_, rfl⟩
        rw [← hre] at hrcell HZ HMEM hrul
        obtain ⟨ra, rc, ts, al⟩ := r
        have r0 : wr.cell? ⟨rb, ro + q * 2, none⟩ = some (.slice ra ts.length rc) := hrcell 0 _ rfl
        have htl := hrul.len
        have HTS := Lib.hid hrul.sl
        have HST := Lib.hid hrul.set
        simp only at htl HTS HST
        have k0 : (0 : Int) ≤ (q : Int) := by omega
        have k1 : (q : Int) < (rs.length : Int) := by omega
        have HBAD : Hid (badR l ⟨ra, rc, ts, al⟩ = (decide (6 < ts.length) || ts.any fun t => !tstB l t)) := (rfl : badR l _ = _)
        clear hrcell hre hrul
        by_cases h6 : 6 < ts.length
        · have t6 : decide (6 < (ts.length : Int)) = true := by simp; omega
          have HT : Hid (chkE l rs = 4) := (by
            unfold chkE
            rw [if_neg HE.out, if_pos]
            exact List.any_eq_true.2 ⟨_, HMEM.out, by rw [HBAD.out]; simp [h6]⟩ : chkE l rs = 4)
          go_wp2_with fail
          refine bodyPost_ret (v := .int .i64 4) (by simp [results, Tryz.results29, go_sem]) rfl ?_
          rw [HT.out]
          exact ⟨rfl, hw⟩
        · have t6 : decide (6 < (ts.length : Int)) = false := by simp; omega
          go_upto_region 9 with fail
          rename World => W9
          have hwz := hw.size
          go_loopw [6] (fun i wr => ∃ j : Nat, j ≤ ts.length ∧ i = .int .i64 j ∧ Hid (∀ t ∈ ts.take j, tstB l t = true) ∧ Hid (Below W9.heap.size W9 wr)) (fun i _ => ts.length - (intOf i).toNat)
          case atStart => exact ⟨0, by omega, rfl, (fun _ h => (by cases h) : ∀ t ∈ ts.take 0, tstB l t = true), Below.refl _ _⟩
          case round =>
            obtain ⟨j, hj, rfl, HTT, hb2⟩ := hrel
            have hb2 := hb2.out
            have hw2 := bl2 hw hb2
            have ga2 := ga.below hb2 ga.lt
            have r0 := (hb2.cell (p := ⟨rb, ro + q * 2, none⟩) (by show rb < W9.heap.size; omega)).trans r0
            by_cases hjl : j < ts.length
            · obtain ⟨tb, to2, rfl, htblk, htcell⟩ := (HTS.out.below hw2).at_ (k := j) (fun _ => rfl) hjl
              have HZ2 : Hid (ts.take (j + 1) = ts.take j ++ [ts[j]]) := (List.take_succ_eq_append_getElem hjl : _ = _)
              have HM2 := Lib.hid (List.getElem_mem hjl)
              have hst := HST.out _ (List.getElem_mem hjl)
              obtain ⟨t, hte⟩ : ∃ t, t = ts[j] := ⟨_, rfl⟩
              rw [← hte] at htcell HZ2 HM2 hst
              obtain ⟨kd, wh, st, fr, to_⟩ := t
              simp only at hst
              have t0 : wr.cell? ⟨tb, to2 + j * 5, none⟩ = some (.int .i64 kd) := htcell 0 _ rfl
              have t1 : wr.cell? ⟨tb, to2 + j * 5 + 1, none⟩ = some (.int .i64 wh) := htcell 1 _ rfl
              have t2 : wr.cell? ⟨tb, to2 + j * 5 + 2, none⟩ = some (.int .u64 st) := htcell 2 _ rfl
              have t3 : wr.cell? ⟨tb, to2 + j * 5 + 3, none⟩ = some (.int .i64 fr) := htcell 3 _ rfl
              have t4 : wr.cell? ⟨tb, to2 + j * 5 + 4, none⟩ = some (.int .i64 to_) := htcell 4 _ rfl
              have j0 : (0 : Int) ≤ (j : Int) := by omega
              have j1 : (j : Int) < (ts.length : Int) := by omega
              have HV := Lib.hid (fun W (hW : Below wr.heap.size wr W) => rtest_any A c l e b u d p f m y s k kd wh st fr to_ W hl HCC.out hst ((HCX.out.below (bl2 hw2 hW)).more (bl2 hw2 hW).size))
              have ga := ga2
              (have z0 := ga.cell 0; have z1 := ga.cell 1; have z2 := ga.cell 2; have z3 := ga.cell 3; have z4 := ga.cell 4; have z5 := ga.cell 5; have z6 := ga.cell 6; have z7 := ga.cell 7; have z8 := ga.cell 8; have z9 := ga.cell 9; have z10 := ga.cell 10; simp at z0 z1 z2 z3 z4 z5 z6 z7 z8 z9 z10)
              clear htcell hte hst
              go_upto_region 11 with fail
              obtain ⟨v, hv⟩ : ∃ v, v = tstB l ⟨kd, wh, st, fr, to_⟩ := ⟨_, rfl⟩
              rw [← hv] at HV
              cases v with
              | false =>
                have HT : Hid (chkE l rs = 4) := (by
                  unfold chkE
                  rw [if_neg HE.out, if_pos]
                  exact List.any_eq_true.2 ⟨_, HMEM.out, by
                    rw [HBAD.out]
                    have : (ts.any fun t => !tstB l t) = true := List.any_eq_true.2 ⟨_, HM2.out, by rw [← hv]; rfl⟩
                    rw [this]; simp⟩ : chkE l rs = 4)
                clear hv
                (refine wp_region_ext (by kernel_rfl) (by kernel_rfl) ?_; (repeat (go_big_quiet_step((go_at_call 56; with_reducible exact Calls.ext_of (HV.out _ (ext_below ⟨_, rfl⟩)))))); with_reducible refine wpQuiet_nil ?_; intro w1 hw1; have hb1 := ext_below hw1; clear hw1)
                go_wp2_with fail
                refine bodyPost_ret (v := .int .i64 4) (by simp [results, Tryz.results29, go_sem]) rfl ?_
                rw [HT.out]
                exact ⟨rfl, bl2 hw2 hb1⟩
              | true =>
                have HTT2 : Hid (∀ t ∈ ts.take (j + 1), tstB l t = true) := (by
                  rw [HZ2.out]
                  intro t ht
                  rcases List.mem_append.1 ht with h | h
                  · exact HTT.out t h
                  · rw [List.mem_singleton.1 h]; exact hv.symm : ∀ t ∈ ts.take (j + 1), tstB l t = true)
                clear hv
                (refine wp_region_ext (by kernel_rfl) (by kernel_rfl) ?_; (repeat (go_big_quiet_step((go_at_call 56; with_reducible exact Calls.ext_of (HV.out _ (ext_below ⟨_, rfl⟩)))))); with_reducible refine wpQuiet_nil ?_; intro w1 hw1; have hb1 := ext_below hw1; clear hw1)
                go_wp2_with fail
                go_roundw
                case rel => exact ⟨j + 1, by omega, by go_num, HTT2, bl2 hb2 hb1⟩
                case measure => simp [intOf]; omega
            · obtain rfl : j = ts.length := by omega
              have HG : Hid (badR l ⟨ra, rc, ts, al⟩ = false) := (by
                rw [HBAD.out]
                have h1 := HTT.out
                rw [List.take_of_length_le (Nat.le_refl _)] at h1
                have h2 : (ts.any fun t => !tstB l t) = false := by
                  rw [List.any_eq_false]
                  intro t ht
                  rw [h1 t ht]; decide
                rw [h2]; simp; omega : badR l _ = false)
              have HB2 : Hid (∀ r ∈ rs.take (q + 1), badR l r = false) := (by
                rw [HZ.out]
                intro r hr
                rcases List.mem_append.1 hr with h | h
                · exact HB.out r h
                · rw [List.mem_singleton.1 h]; exact HG.out : ∀ r ∈ rs.take (q + 1), badR l r = false)
              go_wp2_with fail
              go_roundw
              case rel => exact ⟨q + 1, by omega, by go_num, HB2, hw2, ga2⟩
              case measure => simp [intOf]; omega
      · obtain rfl : q = rs.length := by omega
        have HT : Hid (chkE l rs = 0) := (by
          unfold chkE
          have h1 := HB.out
          rw [List.take_of_length_le (Nat.le_refl _)] at h1
          have h2 : rs.any (badR l) = false := by
            rw [List.any_eq_false]
            intro r hr
            rw [h1 r hr]; decide
          rw [if_neg HE.out, h2]; rfl : chkE l rs = 0)
        go_wp2_with fail
        refine bodyPost_ret (v := .int .i64 0) (by simp [results, Tryz.results29, go_sem]) rfl ?_
        rw [HT.out]
        exact ⟨rfl, hw⟩
set_option maxRecDepth 100000 in
set_option maxHeartbeats 1000000 in
theorem rboth_any (x : Alm) (A2 : Option Addr) (c2 : Nat) (rs : List DRl) (w : World) (hl : x.cycles.length ≤ 1000000) (hc : Sl Cyc.cells 2 w w.heap.size x.a x.cycles) (hr : RlsAt w w.heap.size A2 rs) :
    Calls Tryz.prog 11 #[.agg x.cells.toArray, .slice A2 rs.length c2] w fun e w' => e = .returned (.int .i64 (bothE x rs)) ∧ Below w.heap.size w w' := by
  have HC := Lib.hid (fun W (hW : Below w.heap.size w W) => by
    have h := ralmanac_any x.a x.c x.cycles x.sol.e x.sol.b x.sol.u x.lun.d x.lun.p x.lun.f x.lun.m x.lun.y x.lun.s x.lun.l W (by omega) ((hc.below hW).more hW.size)
    exact (h : Calls Tryz.prog 28 #[.agg x.cells.toArray] W fun en w' => en = .returned (.bool (almB x)) ∧ Below W.heap.size W w'))
  cases hx : almB x with
  | false =>
    have HT : Hid (bothE x rs = 2) := (by simp [bothE, hx] : bothE x rs = 2)
    rw [hx] at HC
    clear hx hc hr
    obtain ⟨A, c, l, ⟨e, b, u⟩, ⟨d, p, f, m, y, s, k⟩⟩ := x
    simp only [Alm.cells] at *
    go_enter Tryz.func11, Tryz.ntmps11
    go_wp2_with (go_at_call 28; refine (HC.out _ (by (repeat (first | exact Below.refl _ _ | assumption | (refine Below.alloc ?_ (by first | omega | (simp; omega) | (simp; done)) _) | (refine Below.setCell ?_ (by first | omega | (simp; omega) | (simp; done)) _) | (refine Below.drew ?_) | (refine belowN ?_ _) | (refine Below.trans ?_ (Below.mono ‹Below _ _ _› (by first | omega | (simp; omega) | (simp; done)))))))).mono ?_; rintro _ W1 ⟨rfl, hb1⟩)
    go_ret
    exact ⟨by rw [HT.out]; rfl, bl2 (by (repeat (first | exact Below.refl _ _ | assumption | (refine Below.alloc ?_ (by first | omega | (simp; omega) | (simp; done)) _) | (refine Below.setCell ?_ (by first | omega | (simp; omega) | (simp; done)) _) | (refine Below.drew ?_) | (refine belowN ?_ _) | (refine Below.trans ?_ (Below.mono ‹Below _ _ _› (by first | omega | (simp; omega) | (simp; done))))))) hb1⟩
  | true =>
    have HT : Hid (bothE x rs = chkE x.cycles rs) := (by simp [bothE, hx] : bothE x rs = _)
    rw [hx] at HC
    have HV := Lib.hid (fun W (hW : Below w.heap.size w W) => rrules_any x A2 c2 rs W hx ((hc.below hW).more hW.size) ((hr.below hW).more hW.size))
    obtain ⟨v, hv⟩ : ∃ v, v = chkE x.cycles rs := ⟨_, rfl⟩
    rw [← hv] at HV HT
    clear hx hc hr hv
    obtain ⟨A, c, l, ⟨e, b, u⟩, ⟨d, p, f, m, y, s, k⟩⟩ := x
    simp only [Alm.cells] at *
    go_enter Tryz.func11, Tryz.ntmps11
    go_wp2_with (first | (go_at_call 28; refine (HC.out _ (by (repeat (first | exact Below.refl _ _ | assumption | (refine Below.alloc ?_ (by first | omega | (simp; omega) | (simp; done)) _) | (refine Below.setCell ?_ (by first | omega | (simp; omega) | (simp; done)) _) | (refine Below.drew ?_) | (refine belowN ?_ _) | (refine Below.trans ?_ (Below.mono ‹Below _ _ _› (by first | omega | (simp; omega) | (simp; done)))))))).mono ?_; rintro _ W1 ⟨rfl, hb1⟩; have hw1 : Below w.heap.size w W1 := bl2 (by (repeat (first | exact Below.refl _ _ | assumption | (refine Below.alloc ?_ (by first | omega | (simp; omega) | (simp; done)) _) | (refine Below.setCell ?_ (by first | omega | (simp; omega) | (simp; done)) _) | (refine Below.drew ?_) | (refine belowN ?_ _) | (refine Below.trans ?_ (Below.mono ‹Below _ _ _› (by first | omega | (simp; omega) | (simp; done))))))) hb1; have ga : Blk W1 w.heap.size #[.slice A l.length c, .int .i64 e, .int .i64 b, .int .i64 u, .int .i64 d, .int .i64 p, .int .i64 f, .int .i64 m, .int .i64 y, .int .i64 s, .int .i64 k] 28 := (Blk.at_ rfl).below hb1 (by first | omega | (simp; omega) | (simp; done)); (have z0 := ga.cell 0; have z1 := ga.cell 1; have z2 := ga.cell 2; have z3 := ga.cell 3; have z4 := ga.cell 4; have z5 := ga.cell 5; have z6 := ga.cell 6; have z7 := ga.cell 7; have z8 := ga.cell 8; have z9 := ga.cell 9; have z10 := ga.cell 10; simp at z0 z1 z2 z3 z4 z5 z6 z7 z8 z9 z10)) | (go_at_call 29; refine (HV.out _ (by (repeat (first | exact Below.refl _ _ | assumption | (refine Below.alloc ?_ (by first | omega | (simp; omega) | (simp; done)) _) | (refine Below.setCell ?_ (by first | omega | (simp; omega) | (simp; done)) _) | (refine Below.drew ?_) | (refine belowN ?_ _) | (refine Below.trans ?_ (Below.mono ‹Below _ _ _› (by first | omega | (simp; omega) | (simp; done)))))))).mono ?_; rintro _ W2 ⟨rfl, hb2⟩))
    go_ret
    exact ⟨by rw [HT.out]; rfl, bl2 hw1 hb2⟩
end Go.Proofs.YtfbnllmmoaialaaGreat

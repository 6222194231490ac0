/- almanac: the reference's Rules, Both. -/
import Derived.Test.YtfbnllmmoaialaaZ30RfP
namespace Go.Proofs.Ytfbnllmmoaialaa
open Go.RowKit

set_option maxRecDepth 100000 in
set_option maxHeartbeats 4000000 in
theorem rrules_any (x : Alm) (A2 : Option Addr) (c2 : Nat) (rs : List DRl) (w : World) (hx : almB x = true) (hcx : Sl Cyc.cells 2 w w.heap.size x.a x.cycles) (hr : RlsAt w w.heap.size A2 rs) :
    Calls Try.prog 51 #[.agg x.cells.toArray, .slice A2 rs.length c2] w fun e w' => e = .returned (.int .i64 (chkE x.cycles rs)) ∧ Below w.heap.size w w' := by
  have hlen := hr.len
  have HRL := Lib.hid hr
  by_cases h30 : 30 < rs.length
  · have d1 : decide (30 < (rs.length : Int)) = true := by simp; omega
    have HT : Hid (chkE x.cycles rs = 5) := (by simp [chkE, h30] : chkE x.cycles rs = 5)
    clear hr hcx
    obtain ⟨A, c, l, ⟨e, b, u⟩, ⟨d, p, f, m, y, s, k⟩⟩ := x
    simp only [Alm.cells]
    go_enter Try.func51, Try.ntmps51
    go_wp2
    refine bodyPost_ret (v := .int .i64 5) (by simp [results, Try.results51, go_sem]) rfl ?_
    rw [HT.out]
    exact ⟨rfl, by (repeat (first | exact Below.refl _ _ | assumption | (refine Below.alloc ?_ (by first | omega | (simp; omega) | (simp; done)) _) | (refine Below.setCell ?_ (by first | omega | (simp; omega) | (simp; done)) _) | (refine Below.drew ?_) | (refine belowN ?_ _) | (refine Below.trans ?_ (Below.mono ‹Below _ _ _› (by first | omega | (simp; omega) | (simp; done))))))⟩
  · have d1 : decide (30 < (rs.length : Int)) = false := by simp; omega
    obtain ⟨A, c, l, ⟨e, b, u⟩, ⟨d, p, f, m, y, s, k⟩⟩ := x
    simp only [almB, Bool.and_eq_true, decide_eq_true_eq, List.all_eq_true] at hx
    obtain ⟨⟨⟨hl, hc⟩, -⟩, -⟩ := hx
    simp only at hcx
    have HCC := Lib.hid hc
    have HCX := Lib.hid hcx
    have HE := Lib.hid h30
    clear hr hcx h30 hc
    simp only [Alm.cells]
    go_enter Try.func51, Try.ntmps51
    go_upto_region 4 with fail
    refine gen_w (fun W => Blk W w.heap.size #[.slice A l.length c, .int .i64 e, .int .i64 b, .int .i64 u, .int .i64 d, .int .i64 p, .int .i64 f, .int .i64 m, .int .i64 y, .int .i64 s, .int .i64 k] 28 ∧ Below w.heap.size w W) ⟨Blk.at_ rfl, by (repeat (first | exact Below.refl _ _ | assumption | (refine Below.alloc ?_ (by first | omega | (simp; omega) | (simp; done)) _) | (refine Below.setCell ?_ (by first | omega | (simp; omega) | (simp; done)) _) | (refine Below.drew ?_) | (refine belowN ?_ _) | (refine Below.trans ?_ (Below.mono ‹Below _ _ _› (by first | omega | (simp; omega) | (simp; done))))))⟩ ?_
    rintro V0 ⟨ga, hw⟩
    go_loopw [5, 6] (fun i _ wr => ∃ q : Nat, q ≤ rs.length ∧ i = .int .i64 q ∧ Hid (∀ r ∈ rs.take q, badR l r = false) ∧ Hid (Below w.heap.size w wr) ∧ Blk wr w.heap.size #[.slice A l.length c, .int .i64 e, .int .i64 b, .int .i64 u, .int .i64 d, .int .i64 p, .int .i64 f, .int .i64 m, .int .i64 y, .int .i64 s, .int .i64 k] 28) (fun i _ _ => rs.length - (intOf i).toNat)
    case atStart => exact ⟨0, by omega, rfl, (fun _ h => (by cases h) : ∀ r ∈ rs.take 0, badR l r = false), hw, ga⟩
    case round =>
      clear hw ga
      obtain ⟨q, hq, rfl, HB, hbw, ga⟩ := hrel
      have hw := hbw.out
      clear hbw
      by_cases hlt : q < rs.length
      · have hrul := HRL.out.rul _ (List.getElem_mem hlt)
        obtain ⟨rb, ro, rfl, hrblk, hrcell⟩ := (HRL.out.sl.below hw).at_ (k := q) (fun _ => rfl) hlt
        have HZ : Hid (rs.take (q + 1) = rs.take q ++ [rs[q]]) := (List.take_succ_eq_append_getElem hlt : _ = _)
        have HMEM := Lib.hid (List.getElem_mem hlt)
        obtain ⟨r, hre⟩ : ∃ r, r = rs[q] := ⟨_, rfl⟩
        rw [← hre] at hrcell HZ HMEM hrul
        obtain ⟨ra, rc, ts, al⟩ := r
        have r0 : wr.cell? ⟨rb, ro + q * 2, none⟩ = some (.slice ra ts.length rc) := hrcell 0 _ rfl
        have htl := hrul.len
        have HTS := Lib.hid hrul.sl
        have HST := Lib.hid hrul.set
        simp only at htl HTS HST
        have k0 : (0 : Int) ≤ (q : Int) := by omega
        have k1 : (q : Int) < (rs.length : Int) := by omega
        have HBAD : Hid (badR l ⟨ra, rc, ts, al⟩ = (decide (6 < ts.length) || ts.any fun t => !tstB l t)) := (rfl : badR l _ = _)
        clear hrcell hre hrul
        by_cases h6 : 6 < ts.length
        · have t6 : decide (6 < (ts.length : Int)) = true := by simp; omega
          have HT : Hid (chkE l rs = 4) := (by
            unfold chkE
            rw [if_neg HE.out, if_pos]
            exact List.any_eq_true.2 ⟨_, HMEM.out, by rw [HBAD.out]; simp [h6]⟩ : chkE l rs = 4)
          go_wp2_with fail
          refine bodyPost_ret (v := .int .i64 4) (by simp [results, Try.results51, go_sem]) rfl ?_
          rw [HT.out]
          exact ⟨rfl, hw⟩
        · have t6 : decide (6 < (ts.length : Int)) = false := by simp; omega
          go_upto_region 9 with fail
          rename World => W9
          have hwz := hw.size
          go_loopw [6] (fun i wr => ∃ j : Nat, j ≤ ts.length ∧ i = .int .i64 j ∧ Hid (∀ t ∈ ts.take j, tstB l t = true) ∧ Hid (Below W9.heap.size W9 wr)) (fun i _ => ts.length - (intOf i).toNat)
          case atStart => exact ⟨0, by omega, rfl, (fun _ h => (by cases h) : ∀ t ∈ ts.take 0, tstB l t = true), Below.refl _ _⟩
          case round =>
            obtain ⟨j, hj, rfl, HTT, hb2⟩ := hrel
            have hb2 := hb2.out
            have hw2 := bl2 hw hb2
            have ga2 := ga.below hb2 ga.lt
            have r0 := (hb2.cell (p := ⟨rb, ro + q * 2, none⟩) (by show rb < W9.heap.size; omega)).trans r0
            by_cases hjl : j < ts.length
            · obtain ⟨tb, to2, rfl, htblk, htcell⟩ := (HTS.out.below hw2).at_ (k := j) (fun _ => rfl) hjl
              have HZ2 : Hid (ts.take (j + 1) = ts.take j ++ [ts[j]]) := (List.take_succ_eq_append_getElem hjl : _ = _)
              have HM2 := Lib.hid (List.getElem_mem hjl)
              have hst := HST.out _ (List.getElem_mem hjl)
              obtain ⟨t, hte⟩ : ∃ t, t = ts[j] := ⟨_, rfl⟩
              rw [← hte] at htcell HZ2 HM2 hst
              obtain ⟨kd, wh, st, fr, to_⟩ := t
              simp only at hst
              have t0 : wr.cell? ⟨tb, to2 + j * 5, none⟩ = some (.int .i64 kd) := htcell 0 _ rfl
              have t1 : wr.cell? ⟨tb, to2 + j * 5 + 1, none⟩ = some (.int .i64 wh) := htcell 1 _ rfl
              have t2 : wr.cell? ⟨tb, to2 + j * 5 + 2, none⟩ = some (.int .u64 st) := htcell 2 _ rfl
              have t3 : wr.cell? ⟨tb, to2 + j * 5 + 3, none⟩ = some (.int .i64 fr) := htcell 3 _ rfl
              have t4 : wr.cell? ⟨tb, to2 + j * 5 + 4, none⟩ = some (.int .i64 to_) := htcell 4 _ rfl
              have j0 : (0 : Int) ≤ (j : Int) := by omega
              have j1 : (j : Int) < (ts.length : Int) := by omega
              have HV := Lib.hid (fun W (hW : Below wr.heap.size wr W) => rtest_any A c l e b u d p f m y s k kd wh st fr to_ W hl HCC.out hst ((HCX.out.below (bl2 hw2 hW)).more (bl2 hw2 hW).size))
              have ga := ga2
              (have z0 := ga.cell 0; have z1 := ga.cell 1; have z2 := ga.cell 2; have z3 := ga.cell 3; have z4 := ga.cell 4; have z5 := ga.cell 5; have z6 := ga.cell 6; have z7 := ga.cell 7; have z8 := ga.cell 8; have z9 := ga.cell 9; have z10 := ga.cell 10; simp at z0 z1 z2 z3 z4 z5 z6 z7 z8 z9 z10)
              clear htcell hte hst
              go_upto_region 11 with fail
              obtain ⟨v, hv⟩ : ∃ v, v = tstB l ⟨kd, wh, st, fr, to_⟩ := ⟨_, rfl⟩
              rw [← hv] at HV
              cases v with
              | false =>
                have HT : Hid (chkE l rs = 4) := (by
                  unfold chkE
                  rw [if_neg HE.out, if_pos]
                  exact List.any_eq_true.2 ⟨_, HMEM.out, by
                    rw [HBAD.out]
                    have : (ts.any fun t => !tstB l t) = true := List.any_eq_true.2 ⟨_, HM2.out, by rw [← hv]; rfl⟩
                    rw [this]; simp⟩ : chkE l rs = 4)
                clear hv
                (refine wp_region_ext (by kernel_rfl) (by kernel_rfl) ?_; (repeat (go_big_quiet_step((go_at_call 89; with_reducible exact Calls.ext_of (HV.out _ (ext_below ⟨_, rfl⟩)))))); with_reducible refine wpQuiet_nil ?_; intro w1 hw1; have hb1 := ext_below hw1; clear hw1)
                go_wp2_with fail
                refine bodyPost_ret (v := .int .i64 4) (by simp [results, Try.results51, go_sem]) rfl ?_
                rw [HT.out]
                exact ⟨rfl, bl2 hw2 hb1⟩
              | true =>
                have HTT2 : Hid (∀ t ∈ ts.take (j + 1), tstB l t = true) := (by
                  rw [HZ2.out]
                  intro t ht
                  rcases List.mem_append.1 ht with h | h
                  · exact HTT.out t h
                  · rw [List.mem_singleton.1 h]; exact hv.symm : ∀ t ∈ ts.take (j + 1), tstB l t = true)
                clear hv
                (refine wp_region_ext (by kernel_rfl) (by kernel_rfl) ?_; (repeat (go_big_quiet_step((go_at_call 89; with_reducible exact Calls.ext_of (HV.out _ (ext_below ⟨_, rfl⟩)))))); with_reducible refine wpQuiet_nil ?_; intro w1 hw1; have hb1 := ext_below hw1; clear hw1)
                go_wp2_with fail
                go_roundw
                case rel => exact ⟨j + 1, by omega, by go_num, HTT2, bl2 hb2 hb1⟩
                case measure => simp [intOf]; omega
            · obtain rfl : j = ts.length := by omega
              have HG : Hid (badR l ⟨ra, rc, ts, al⟩ = false) := (by
                rw [HBAD.out]
                have h1 := HTT.out
                rw [List.take_of_length_le (Nat.le_refl _)] at h1
                have h2 : (ts.any fun t => !tstB l t) = false := by
                  rw [List.any_eq_false]
                  intro t ht
                  rw [h1 t ht]; decide
                rw [h2]; simp; omega : badR l _ = false)
              have HB2 : Hid (∀ r ∈ rs.take (q + 1), badR l r = false) := (by
                rw [HZ.out]
                intro r hr
                rcases List.mem_append.1 hr with h | h
                · exact HB.out r h
                · rw [List.mem_singleton.1 h]; exact HG.out : ∀ r ∈ rs.take (q + 1), badR l r = false)
              go_wp2_with fail
              go_roundw
              case rel => exact ⟨q + 1, by omega, by go_num, HB2, hw2, ga2⟩
              case measure => simp [intOf]; omega
      · obtain rfl : q = rs.length := by omega
        have HT : Hid (chkE l rs = 0) := (by
          unfold chkE
          have h1 := HB.out
          rw [List.take_of_length_le (Nat.le_refl _)] at h1
          have h2 : rs.any (badR l) = false := by
            rw [List.any_eq_false]
            intro r hr
            rw [h1 r hr]; decide
          rw [if_neg HE.out, h2]; rfl : chkE l rs = 0)
        go_wp2_with fail
        refine bodyPost_ret (v := .int .i64 0) (by simp [results, Try.results51, go_sem]) rfl ?_
        rw [HT.out]
        exact ⟨rfl, hw⟩
set_option maxRecDepth 100000 in
set_option maxHeartbeats 1000000 in
theorem rboth_any (x : Alm) (A2 : Option Addr) (c2 : Nat) (rs : List DRl) (w : World) (hl : x.cycles.length ≤ 1000000) (hc : Sl Cyc.cells 2 w w.heap.size x.a x.cycles) (hr : RlsAt w w.heap.size A2 rs) :
    Calls Try.prog 21 #[.agg x.cells.toArray, .slice A2 rs.length c2] w fun e w' => e = .returned (.int .i64 (bothE x rs)) ∧ Below w.heap.size w w' := by
  have HC := Lib.hid (fun W (hW : Below w.heap.size w W) => by
    have h := ralmanac_any x.a x.c x.cycles x.sol.e x.sol.b x.sol.u x.lun.d x.lun.p x.lun.f x.lun.m x.lun.y x.lun.s x.lun.l W (by omega) ((hc.below hW).more hW.size)
    exact (h : Calls Try.prog 38 #[.agg x.cells.toArray] W fun en w' => en = .returned (.bool (almB x)) ∧ Below W.heap.size W w'))
  cases hx : almB x with
  | false =>
    have HT : Hid (bothE x rs = 2) := (by simp [bothE, hx] : bothE x rs = 2)
    rw [hx] at HC
    clear hx hc hr
    obtain ⟨A, c, l, ⟨e, b, u⟩, ⟨d, p, f, m, y, s, k⟩⟩ := x
    simp only [Alm.cells] at *
    go_enter Try.func21, Try.ntmps21
    go_wp2_with (go_at_call 38; refine (HC.out _ (by (repeat (first | exact Below.refl _ _ | assumption | (refine Below.alloc ?_ (by first | omega | (simp; omega) | (simp; done)) _) | (refine Below.setCell ?_ (by first | omega | (simp; omega) | (simp; done)) _) | (refine Below.drew ?_) | (refine belowN ?_ _) | (refine Below.trans ?_ (Below.mono ‹Below _ _ _› (by first | omega | (simp; omega) | (simp; done)))))))).mono ?_; rintro _ W1 ⟨rfl, hb1⟩)
    go_ret
    exact ⟨by rw [HT.out]; rfl, bl2 (by (repeat (first | exact Below.refl _ _ | assumption | (refine Below.alloc ?_ (by first | omega | (simp; omega) | (simp; done)) _) | (refine Below.setCell ?_ (by first | omega | (simp; omega) | (simp; done)) _) | (refine Below.drew ?_) | (refine belowN ?_ _) | (refine Below.trans ?_ (Below.mono ‹Below _ _ _› (by first | omega | (simp; omega) | (simp; done))))))) hb1⟩
  | true =>
    have HT : Hid (bothE x rs = chkE x.cycles rs) := (by simp [bothE, hx] : bothE x rs = _)
    rw [hx] at HC
    have HV := Lib.hid (fun W (hW : Below w.heap.size w W) => rrules_any x A2 c2 rs W hx ((hc.below hW).more hW.size) ((hr.below hW).more hW.size))
    obtain ⟨v, hv⟩ : ∃ v, v = chkE x.cycles rs := ⟨_, rfl⟩
    rw [← hv] at HV HT
    clear hx hc hr hv
    obtain ⟨A, c, l, ⟨e, b, u⟩, ⟨d, p, f, m, y, s, k⟩⟩ := x
    simp only [Alm.cells] at *
    go_enter Try.func21, Try.ntmps21
    go_wp2_with (first | (go_at_call 38; refine (HC.out _ (by (repeat (first | exact Below.refl _ _ | assumption | (refine Below.alloc ?_ (by first | omega | (simp; omega) | (simp; done)) _) | (refine Below.setCell ?_ (by first | omega | (simp; omega) | (simp; done)) _) | (refine Below.drew ?_) | (refine belowN ?_ _) | (refine Below.trans ?_ (Below.mono ‹Below _ _ _› (by first | omega | (simp; omega) | (simp; done)))))))).mono ?_; rintro _ W1 ⟨rfl, hb1⟩; have hw1 : Below w.heap.size w W1 := bl2 (by (repeat (first | exact Below.refl _ _ | assumption | (refine Below.alloc ?_ (by first | omega | (simp; omega) | (simp; done)) _) | (refine Below.setCell ?_ (by first | omega | (simp; omega) | (simp; done)) _) | (refine Below.drew ?_) | (refine belowN ?_ _) | (refine Below.trans ?_ (Below.mono ‹Below _ _ _› (by first | omega | (simp; omega) | (simp; done))))))) hb1; have ga : Blk W1 w.heap.size #[.slice A l.length c, .int .i64 e, .int .i64 b, .int .i64 u, .int .i64 d, .int .i64 p, .int .i64 f, .int .i64 m, .int .i64 y, .int .i64 s, .int .i64 k] 28 := (Blk.at_ rfl).below hb1 (by first | omega | (simp; omega) | (simp; done)); (have z0 := ga.cell 0; have z1 := ga.cell 1; have z2 := ga.cell 2; have z3 := ga.cell 3; have z4 := ga.cell 4; have z5 := ga.cell 5; have z6 := ga.cell 6; have z7 := ga.cell 7; have z8 := ga.cell 8; have z9 := ga.cell 9; have z10 := ga.cell 10; simp at z0 z1 z2 z3 z4 z5 z6 z7 z8 z9 z10)) | (go_at_call 51; refine (HV.out _ (by (repeat (first | exact Below.refl _ _ | assumption | (refine Below.alloc ?_ (by first | omega | (simp; omega) | (simp; done)) _) | (refine Below.setCell ?_ (by first | omega | (simp; omega) | (simp; done)) _) | (refine Below.drew ?_) | (refine belowN ?_ _) | (refine Below.trans ?_ (Below.mono ‹Below _ _ _› (by first | omega | (simp; omega) | (simp; done)))))))).mono ?_; rintro _ W2 ⟨rfl, hb2⟩))
    go_ret
    exact ⟨by rw [HT.out]; rfl, bl2 hw1 hb2⟩
end Go.Proofs.Ytfbnllmmoaialaa

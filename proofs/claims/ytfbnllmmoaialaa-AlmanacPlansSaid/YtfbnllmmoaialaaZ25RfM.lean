/- almanac: the reference's Rules, Both. -/
import Derived.Test.YtfbnllmmoaialaaZ24Pi
import Derived.Test.YtfbnllmmoaialaaB13Ar
import Derived.Test.YtfbnllmmoaialaaAj
namespace Go.Proofs.Ytfbnllmmoaialaa
open Go.RowKit

set_option maxRecDepth 100000 in
set_option maxHeartbeats 4000000 in
theorem rrules_any (x : Alm) (A2 : Option Addr) (c2 : Nat) (rs : List DRl) (w : World) (hx : almB x = true) (hcx : Sl Cyc.cells 2 w w.heap.size x.a x.cycles) (hr : RlsAt w w.heap.size A2 rs) :
    Calls Try.prog 51 #[.agg x.cells.toArray, .slice A2 rs.length c2] w fun e w' => e = .returned (.int .i64 (chkE x.cycles rs)) ∧ Below w.heap.size w w' := by
  have hlen := hr.len
  have HRL := Lib.hid hr
  by_cases h30 : 30 < rs.length
  · have d1 : decide (30 < (rs.length : Int)) = true := by simp; omega
    have HT : Hid (chkE x.cycles rs = 5) := (by simp [chkE, h30] : chkE x.cycles rs = 5)
    clear hr hcx
    obtain ⟨A, c, l, ⟨e, b, u⟩, ⟨d, p, f, m, y, s, k⟩⟩ := x
    simp only [Alm.cells]
    go_enter Try.func51, Try.ntmps51
    go_wp2
    refine bodyPost_ret (v := .int .i64 5) (by simp [results, Try.results51, go_sem]) rfl ?_
    rw [HT.out]
    exact ⟨rfl, by (repeat (first | exact Below.refl _ _ | assumption | (refine Below.alloc ?_ (by first | omega | (simp; omega) | (simp; done)) _) | (refine Below.setCell ?_ (by first | omega | (simp; omega) | (simp; done)) _) | (refine Below.drew ?_) | (refine belowN ?_ _) | (refine Below.trans ?_ (Below.mono ‹Below _ _ _› (by first | omega | (simp; omega) | (simp; done))))))⟩
  · have d1 : decide (30 < (rs.length : Int)) = false := by simp; omega
    obtain ⟨A, c, l, ⟨e, b, u⟩, ⟨d, p, f, m, y, s, k⟩⟩ := x
    simp only [almB, Bool.and_eq_true, decide_eq_true_eq, List.all_eq_true] at hx
    obtain ⟨⟨⟨hl, hc⟩, -⟩, -⟩ := hx
    simp only at hcx
    have HCC := Lib.hid hc
    have HCX := Lib.hid hcx
    have HE := Lib.hid h30
    clear hr hcx h30 hc
    simp only [Alm.cells]
    go_enter Try.func51, Try.ntmps51
    go_upto_region 4 with fail
    refine gen_w (fun W => Blk W w.heap.size #[.slice A l.length c, .int .i64 e, .int .i64 b, .int .i64 u, .int .i64 d, .int .i64 p, .int .i64 f, .int .i64 m, .int .i64 y, .int .i64 s, .int .i64 k] 28 ∧ Below w.heap.size w W) ⟨Blk.at_ rfl, by (repeat (first | exact Below.refl _ _ | assumption | (refine Below.alloc ?_ (by first | omega | (simp; omega) | (simp; done)) _) | (refine Below.setCell ?_ (by first | omega | (simp; omega) | (simp; done)) _) | (refine Below.drew ?_) | (refine belowN ?_ _) | (refine Below.trans ?_ (Below.mono ‹Below _ _ _› (by first | omega | (simp; omega) | (simp; done))))))⟩ ?_
    rintro V0 ⟨ga, hw⟩
    go_loopw [5, 6] (fun i _ wr => ∃ q : Nat, q ≤ rs.length ∧ i = .int .i64 q ∧ Hid (∀ r ∈ rs.take q, badR l r = false) ∧ Hid (Below w.heap.size w wr) ∧ Blk wr w.heap.size #[.slice A l.length c, .int .i64 e, .int .i64 b, .int .i64 u, .int .i64 d, .int .i64 p, .int .i64 f, .int .i64 m, .int .i64 y, .int .i64 s, .int .i64 k] 28) (fun i _ _ => rs.length - (intOf i).toNat)
    case atStart => exact ⟨0, by omega, rfl, (fun _ h => (by cases h) : ∀ r ∈ rs.take 0, badR l r = false), hw, ga⟩
    case round =>
      clear hw ga
      obtain ⟨q, hq, rfl, HB, hbw, ga⟩ := hrel
      have hw := hbw.out
      clear hbw
      by_cases hlt : q < rs.length
      · have hrul := HRL.out.rul _ (List.getElem_mem hlt)
        obtain ⟨rb, ro, rfl, hrblk, hrcell⟩ := (HRL.out.sl.below hw).at_ (k := q) (fun _ => rfl) hlt
        have HZ : Hid (rs.take (q + 1) = rs.take q ++ [rs[q]]) := (List.take_succ_eq_append_getElem hlt : _ = _)
        have HMEM := Lib.hid (List.getElem_mem hlt)
        obtain ⟨r, hre⟩ : ∃ r, r = rs[q] := ⟨_, rfl⟩
        rw [← hre] at hrcell HZ HMEM hrul
        obtain ⟨ra, rc, ts, al⟩ := r
        have r0 : wr.cell? ⟨rb, ro + q * 2, none⟩ = some (.slice ra ts.length rc) := hrcell 0 _ rfl
        have htl := hrul.len
        have HTS := Lib.hid hrul.sl
        have HST := Lib.hid hrul.set
        simp only at htl HTS HST
        have k0 : (0 : Int) ≤ (q : Int) := by omega
        have k1 : (q : Int) < (rs.length : Int) := by omega
        have HBAD : Hid (badR l ⟨ra, rc, ts, al⟩ = (decide (6 < ts.length) || ts.any fun t => !tstB l t)) := (rfl : badR l _ = _)
        clear hrcell hre hrul
        by_cases h6 : 6 < ts.length
        · have t6 : decide (6 < (ts.length : Int)) = true := by simp; omega
          have HT : Hid (chkE l rs = 4) := (by
            unfold chkE
            rw [if_neg HE.out, if_pos]
            exact List.any_eq_true.2 ⟨_, HMEM.out, by rw [HBAD.out]; simp [h6]⟩ : chkE l rs = 4)
          go_wp2_with fail
          refine bodyPost_ret (v := .int .i64 4) (by simp [results, Try.results51, go_sem]) rfl ?_
          rw [HT.out]
          exact ⟨rfl, hw⟩
        · have t6 : decide (6 < (ts.length : Int)) = false := by simp; omega
          go_upto_region 9 with fail
          rename World => W9
          have hwz := hw.size
          go_loopw [6] (fun i wr => ∃ j : Nat, j ≤ ts.length ∧ i = .int .i64 j ∧ Hid (∀ t ∈ ts.take j, tstB l t = true) ∧ Hid (Below W9.heap.size W9 wr)) (fun i _ => ts.length - (intOf i).toNat)
          case atStart => exact ⟨0, by omega, rfl, (fun _ h => (by cases h) : ∀ t ∈ ts.take 0, tstB l t = true), Below.refl _ _⟩
          case round =>
            obtain ⟨j, hj, rfl, HTT, hb2⟩ := hrel
            have hb2 := hb2.out
            have hw2 := bl2 hw hb2
            have ga2 := ga.below hb2 ga.lt
            have r0 := (hb2.cell (p := ⟨rb, ro + q * 2, none⟩) (by show rb < W9.heap.size; omega)).trans r0
            by_cases hjl : j < ts.length
            · obtain ⟨tb, to2, rfl, htblk, htcell⟩ := (HTS.out.below hw2).at_ (k := j) (fun _ => rfl) hjl
              have HZ2 : Hid (ts.take (j + 1) = ts.take j ++ [ts[j]]) := (List.take_succ_eq_append_getElem hjl : _ = _)
              have HM2 := Lib.hid (List.getElem_mem hjl)
              have hst := HST.out _ (List.getElem_mem hjl)
              obtain ⟨t, hte⟩ : ∃ t, t = ts[j] := ⟨_, rfl⟩
              rw [← hte] at htcell HZ2 HM2 hst
              obtain ⟨kd, wh, st, fr, to_⟩ := t
              simp only at hst
              have t0 : wr.cell? ⟨tb, to2 + j * 5, none⟩ = some (.int .i64 kd) := htcell 0 _ rfl
              have t1 : wr.cell? ⟨tb, to2 + j * 5 + 1, none⟩ = some (.int .i64 wh) := htcell 1 _ rfl
              have t2 : wr.cell? ⟨tb, to2 + j * 5 + 2, none⟩ = some (.int .u64 st) := htcell 2 _ rfl
              have t3 : wr.cell? ⟨tb, to2 + j * 5 + 3, none⟩ = some (.int .i64 fr) := htcell 3 _ rfl
              have t4 : wr.cell? ⟨tb, to2 + j * 5 + 4, none⟩ = some (.int .i64 to_) := htcell 4 _ rfl
              have j0 : (0 : Int) ≤ (j : Int) := by omega
              have j1 : (j : Int) < (ts.length : Int) := by omega
              have HV := Lib.hid (fun W (hW : Below wr.heap.size wr W) => rtest_any A c l e b u d p f m y s k kd wh st fr to_ W hl HCC.out hst ((HCX.out.below (bl2 hw2 hW)).more (bl2 hw2 hW).size))
              have ga := ga2
              (have z0 := ga.cell 0; have z1 := ga.cell 1; have z2 := ga.cell 2; have z3 := ga.cell 3; have z4 := ga.cell 4; have z5 := ga.cell 5; have z6 := ga.cell 6; have z7 := ga.cell 7; have z8 := ga.cell 8; have z9 := ga.cell 9; have z10 := ga.cell 10; simp at z0 z1 z2 z3 z4 z5 z6 z7 z8 z9 z10)
              clear htcell hte hst
              go_upto_region 11 with fail
              obtain ⟨v, hv⟩ : ∃ v, v = tstB l ⟨kd, wh, st, fr, to_⟩ := ⟨_, rfl⟩
              rw [← hv] at HV
              cases v with
              | false =>
                have HT : Hid (chkE l rs = 4) := (by
                  unfold chkE
                  rw [if_neg HE.out, if_pos]
                  exact List.any_eq_true.2 ⟨_, HMEM.out, by
                    rw [HBAD.out]
                    have : (ts.any fun t => !tstB l t) = true := List.any_eq_true.2 ⟨_, HM2.out, by rw [← hv]; rfl⟩
                    rw [this]; simp⟩ : chkE l rs = 4)
                clear hv
                (refine wp_region_ext (by kernel_rfl) (by kernel_rfl) ?_; (repeat (go_big_quiet_step((go_at_call 89; with_reducible exact Calls.ext_of (HV.out _ (ext_below ⟨_, rfl⟩)))))); with_reducible refine wpQuiet_nil ?_; intro w1 hw1; have hb1 := ext_below hw1; clear hw1)
                go_wp2_with fail
                refine bodyPost_ret (v := .int .i64 4) (by simp [results, Try.results51, go_sem]) rfl ?_
                rw [HT.out]
                exact ⟨rfl, bl2 hw2 hb1⟩
              | true =>
                have HTT2 : Hid (∀ t ∈ ts.take (j + 1), tstB l t = true) := (by
                  rw [HZ2.out]
                  intro t ht
                  rcases List.mem_append.1 ht with h | h
                  · exact HTT.out t h
                  · rw [List.mem_singleton.1 h]; exact hv.symm : ∀ t ∈ ts.take (j + 1), tstB l t = true)
                clear hv
                (refine wp_region_ext (by kernel_rfl) (by kernel_rfl) ?_; (repeat (go_big_quiet_step((go_at_call 89; with_reducible exact Calls.ext_of (HV.out _ (ext_below ⟨_, rfl⟩)))))); with_reducible refine wpQuiet_nil ?_; intro w1 hw1; have hb1 := ext_below hw1; clear hw1)
                go_wp2_with fail
                go_roundw
                case rel => exact ⟨j + 1, by omega, by go_num, HTT2, bl2 hb2 hb1⟩
                case measure => simp [intOf]; omega
            · obtain rfl : j = ts.length := by omega
              have HG : Hid (badR l ⟨ra, rc, ts, al⟩ = false) := (by
                rw [HBAD.out]
                have h1 := HTT.out
                rw [List.take_of_length_le (Nat.le_refl _)] at h1
                have h2 : (ts.any fun t => !tstB l t) = false := by
                  rw [List.any_eq_false]
                  intro t ht
                  rw [h1 t ht]; decide
                rw [h2]; simp; omega : badR l _ = false)
              have HB2 : Hid (∀ r ∈ rs.take (q + 1), badR l r = false) := (by
                rw [HZ.out]
                intro r hr
                rcases List.mem_append.1 hr with h | h
                · exact HB.out r h
                · rw [List.mem_singleton.1 h]; exact HG.out : ∀ r ∈ rs.take (q + 1), badR l r = false)
              go_wp2_with fail
              go_roundw
              case rel => exact ⟨q + 1, by omega, by go_num, HB2, hw2, ga2⟩
              case measure => simp [intOf]; omega
      · obtain rfl : q = rs.length := by omega
        have HT : Hid (chkE l rs = 0) := (by
          unfold chkE
          have h1 := HB.out
          rw [List.take_of_length_le (Nat.le_refl _)] at h1
          have h2 : rs.any (badR l) = false := by
            rw [List.any_eq_false]
            intro r hr
            rw [h1 r hr]; decide
          rw [if_neg HE.out, h2]; rfl : chkE l rs = 0)
        go_wp2_with fail
        refine bodyPost_ret (v := .int .i64 0) (by simp [results, Try.results51, go_sem]) rfl ?_
        rw [HT.out]
        exact ⟨rfl, hw⟩
set_option maxRecDepth 100000 in
set_option maxHeartbeats 1000000 in
theorem rboth_any (x : Alm) (A2 : Option Addr) (c2 : Nat) (rs : List DRl) (w : World) (hl : x.cycles.length ≤ 1000000) (hc : Sl Cyc.cells 2 w w.heap.size x.a x.cycles) (hr : RlsAt w w.heap.size A2 rs) :
    Calls Try.prog 21 #[.agg x.cells.toArray, .slice A2 rs.length c2] w fun e w' => e = .returned (.int .i64 (bothE x rs)) ∧ Below w.heap.size w w' := by
  have HC := Lib.hid (fun W (hW : Below w.heap.size w W) => by
    have h := ralmanac_any x.a x.c x.cycles x.sol.e x.sol.b x.sol.u x.lun.d x.lun.p x.lun.f x.lun.m x.lun.y x.lun.s x.lun.l W (by omega) ((hc.below hW).more hW.size)
    exact (h : Calls Try.prog 38 #[.agg x.cells.toArray] W fun en w' => en = .returned (.bool (almB x)) ∧ Below W.heap.size W w'))
  cases hx : almB x with
  | false =>
    have HT : Hid (bothE x rs = 2) := (by simp [bothE, hx] : bothE x rs = 2)
    rw [hx] at HC
    clear hx hc hr
    obtain ⟨A, c, l, ⟨e, b, u⟩, ⟨d, p, f, m, y, s, k⟩⟩ := x
    simp only [Alm.cells] at *
    go_enter Try.func21, Try.ntmps21
    go_wp2_with (go_at_call 38; refine (HC.out _ (by (repeat (first | exact Below.refl _ _ | assumption | (refine Below.alloc ?_ (by first | omega | (simp; omega) | (simp; done)) _) | (refine Below.setCell ?_ (by first | omega | (simp; omega) | (simp; done)) _) | (refine Below.drew ?_) | (refine belowN ?_ _) | (refine Below.trans ?_ (Below.mono ‹Below _ _ _› (by first | omega | (simp; omega) | (simp; done)))))))).mono ?_; rintro _ W1 ⟨rfl, hb1⟩)
    go_ret
    exact ⟨by rw [HT.out]; rfl, bl2 (by (repeat (first | exact Below.refl _ _ | assumption | (refine Below.alloc ?_ (by first | omega | (simp; omega) | (simp; done)) _) | (refine Below.setCell ?_ (by first | omega | (simp; omega) | (simp; done)) _) | (refine Below.drew ?_) | (refine belowN ?_ _) | (refine Below.trans ?_ (Below.mono ‹Below _ _ _› (by first | omega | (simp; omega) | (simp; done))))))) hb1⟩
  | true =>
    have HT : Hid (bothE x rs = chkE x.cycles rs) := (by simp [bothE, hx] : bothE x rs = _)
    rw [hx] at HC
    have HV := Lib.hid (fun W (hW : Below w.heap.size w W) => rrules_any x A2 c2 rs W hx ((hc.below hW).more hW.size) ((hr.below hW).more hW.size))
    obtain ⟨v, hv⟩ : ∃ v, v = chkE x.cycles rs := ⟨_, rfl⟩
    rw [← hv] at HV HT
    clear hx hc hr hv
    obtain ⟨A, c, l, ⟨e, b, u⟩, ⟨d, p, f, m, y, s, k⟩⟩ := x
    simp only [Alm.cells] at *
    go_enter Try.func21, Try.ntmps21
    go_wp2_with (first | (go_at_call 38; refine (HC.out _ (by (repeat (first | exact Below.refl _ _ | assumption | (refine Below.alloc ?_ (by first | omega | (simp; omega) | (simp; done)) _) | (refine Below.setCell ?_ (by first | omega | (simp; omega) | (simp; done)) _) | (refine Below.drew ?_) | (refine belowN ?_ _) | (refine Below.trans ?_ (Below.mono ‹Below _ _ _› (by first | omega | (simp; omega) | (simp; done)))))))).mono ?_; rintro _ W1 ⟨rfl, hb1⟩; have hw1 : Below w.heap.size w W1 := bl2 (by (repeat (first | exact Below.refl _ _ | assumption | (refine Below.alloc ?_ (by first | omega | (simp; omega) | (simp; done)) _) | (refine Below.setCell ?_ (by first | omega | (simp; omega) | (simp; done)) _) | (refine Below.drew ?_) | (refine belowN ?_ _) | (refine Below.trans ?_ (Below.mono ‹Below _ _ _› (by first | omega | (simp; omega) | (simp; done))))))) hb1; have ga : Blk W1 w.heap.size #[.slice A l.length c, .int .i64 e, .int .i64 b, .int .i64 u, .int .i64 d, .int .i64 p, .int .i64 f, .int .i64 m, .int .i64 y, .int .i64 s, .int .i64 k] 28 := (Blk.at_ rfl).below hb1 (by first | omega | (simp; omega) | (simp; done)); (have z0 := ga.cell 0; have z1 := ga.cell 1; have z2 := ga.cell 2; have z3 := ga.cell 3; have z4 := ga.cell 4; have z5 := ga.cell 5; have z6 := ga.cell 6; have z7 := ga.cell 7; have z8 := ga.cell 8; have z9 := ga.cell 9; have z10 := ga.cell 10; simp at z0 z1 z2 z3 z4 z5 z6 z7 z8 z9 z10)) | (go_at_call 51; refine (HV.out _ (by (repeat (first | exact Below.refl _ _ | assumption | (refine Below.alloc ?_ (by first | omega | (simp; omega) | (simp; done)) _) | (refine Below.setCell ?_ (by first | omega | (simp; omega) | (simp; done)) _) | (refine Below.drew ?_) | (refine belowN ?_ _) | (refine Below.trans ?_ (Below.mono ‹Below _ _ _› (by first | omega | (simp; omega) | (simp; done)))))))).mono ?_; rintro _ W2 ⟨rfl, hb2⟩))
    go_ret
    exact ⟨by rw [HT.out]; rfl, bl2 hw1 hb2⟩
end Go.Proofs.Ytfbnllmmoaialaa
namespace Go.Proofs.Ytfbnllmmoaialaa

/-- the ends of a list -/
def sufs : List Int → List (List Int)
  | [] => [[]]
  | d :: l => (d :: l) :: sufs l
theorem mem_sufs {t : List Int} : ∀ {l : List Int}, t ∈ sufs l ↔ ∃ l1, l1 ++ t = l
  | [] => by
    simp only [sufs, List.mem_singleton]
    constructor
    · rintro rfl; exact ⟨[], rfl⟩
    · rintro ⟨l1, h⟩; simpa using (List.append_eq_nil_iff.1 h).2
  | d :: l => by
    simp only [sufs, List.mem_cons, mem_sufs (l := l)]
    constructor
    · rintro (rfl | ⟨l1, rfl⟩)
      · exact ⟨[], rfl⟩
      · exact ⟨d :: l1, rfl⟩
    · rintro ⟨l1, h⟩
      cases l1 with
      | nil => exact .inl h
      | cons x l1 =>
        simp only [List.cons_append, List.cons.injEq] at h
        exact .inr ⟨l1, h.2⟩
/-- whether n days more can follow the first one of a list -/
def canS (g0 g1 : Int) : Nat → List Int → Bool
  | _, [] => false
  | 0, _ :: _ => true
  | n + 1, d :: l => (sufs l).any fun t => match t with
    | [] => false
    | y :: r => inB (y - d) g0 g1 && canS g0 g1 n (y :: r)
theorem canS_plan {g0 g1 : Int} : ∀ (n : Nat) (d : Int) (l : List Int), canS g0 g1 n (d :: l) = true ↔ ∃ ps : List Int, ps.length = n ∧ PlanOf g0 g1 l (some d) ps
  | 0, d, l => by
    simp only [canS, true_iff]
    exact ⟨[], rfl, trivial⟩
  | n + 1, d, l => by
    simp only [canS, List.any_eq_true, mem_sufs]
    constructor
    · rintro ⟨t, ⟨l1, rfl⟩, ht⟩
      cases t with
      | nil => cases ht
      | cons y r =>
        simp only [Bool.and_eq_true] at ht
        obtain ⟨ps, h1, h2⟩ := (canS_plan n y r).1 ht.2
        exact ⟨y :: ps, by simp [h1], l1, r, rfl, ht.1, h2⟩
    · rintro ⟨ps, h1, h2⟩
      cases ps with
      | nil => cases h1
      | cons y ps =>
        obtain ⟨l1, l2, rfl, h3, h4⟩ := h2
        refine ⟨y :: l2, ⟨l1, rfl⟩, ?_⟩
        simp only [Bool.and_eq_true]
        exact ⟨h3, (canS_plan n y l2).2 ⟨ps, by simpa using h1, h4⟩⟩
/-- the smallest plan by what can follow each day -/
def refG (g0 g1 : Int) : List Int → Option Int → Nat → Option (List Int)
  | _, _, 0 => some []
  | [], _, _ + 1 => none
  | d :: l, last, k + 1 => if canS g0 g1 k (d :: l) && nearB g0 g1 last d then (refG g0 g1 l (some d) k).map (d :: ·) else refG g0 g1 l last (k + 1)
theorem refG_eq {g0 g1 T : Int} : ∀ (l : List Int) (last : Option Int) (k : Nat), (k : Int) ≤ T → refG g0 g1 l last k = greedy g0 g1 (l.zip (cnts g0 g1 T l)) last k
  | l, last, 0, _ => by
    have e : greedy g0 g1 (l.zip (cnts g0 g1 T l)) last 0 = some [] := by cases l.zip (cnts g0 g1 T l) <;> rfl
    rw [e]
    cases l <;> rfl
  | [], last, k + 1, _ => rfl
  | d :: l, last, k + 1, hk => by
    have hA := cnts_plan (g0 := g0) (g1 := g1) (T := T) l.length l (Nat.le_refl _) d k (by omega)
    have hB : canS g0 g1 k (d :: l) = decide ((k : Int) + 1 ≤ min (bestOf g0 g1 d l (cnts g0 g1 T l) + 1) T) := by
      rw [Bool.eq_iff_iff, canS_plan, decide_eq_true_iff, hA]
    simp only [refG, cnts, List.zip_cons_cons, greedy]
    rw [hB, refG_eq (T := T) l (some d) k (by omega), refG_eq (T := T) l last (k + 1) hk]
/-- the same by places -/
def canF (g0 g1 : Int) (l : List Int) (n i : Nat) : Bool := canS g0 g1 n (l.drop i)
theorem canF_zero {g0 g1 : Int} {l : List Int} {i : Nat} (h : i < l.length) : canF g0 g1 l 0 i = true := by
  unfold canF
  rw [List.drop_eq_getElem_cons h]
  rfl
/-- what is found among the places from i + 1 up to, not with, i + 1 + j -/
def canU (g0 g1 : Int) (l : List Int) (n i : Nat) : Nat → Bool
  | 0 => false
  | j + 1 => canU g0 g1 l n i j || (inB (l.getD (i + 1 + j) 0 - l.getD i 0) g0 g1 && canF g0 g1 l n (i + 1 + j))
theorem canU_iff {g0 g1 : Int} {l : List Int} {n i : Nat} : ∀ j, canU g0 g1 l n i j = true ↔ ∃ t, t < j ∧ inB (l.getD (i + 1 + t) 0 - l.getD i 0) g0 g1 = true ∧ canF g0 g1 l n (i + 1 + t) = true
  | 0 => by simp [canU]
  | j + 1 => by
    simp only [canU, Bool.or_eq_true, Bool.and_eq_true, canU_iff j]
    constructor
    · rintro (⟨t, h1, h2, h3⟩ | ⟨h2, h3⟩)
      · exact ⟨t, by omega, h2, h3⟩
      · exact ⟨j, by omega, h2, h3⟩
    · rintro ⟨t, h1, h2, h3⟩
      by_cases e : t = j
      · subst e; exact .inr ⟨h2, h3⟩
      · exact .inl ⟨t, by omega, h2, h3⟩
theorem canU_all {g0 g1 : Int} {l : List Int} {n i j : Nat} (h : i < l.length) (hj : i + 1 + j = l.length) : canU g0 g1 l n i j = canF g0 g1 l (n + 1) i := by
  rw [Bool.eq_iff_iff, canU_iff]
  have hd : l.drop i = l[i] :: l.drop (i + 1) := List.drop_eq_getElem_cons h
  have hg : l.getD i 0 = l[i] := by simp [h]
  rw [hg]
  unfold canF
  rw [hd]
  simp only [canS, List.any_eq_true, mem_sufs]
  constructor
  · rintro ⟨t, h1, h2, h3⟩
    have ht : i + 1 + t < l.length := by omega
    have hd2 : l.drop (i + 1 + t) = l[i + 1 + t] :: l.drop (i + 1 + t + 1) := List.drop_eq_getElem_cons ht
    refine ⟨l.drop (i + 1 + t), ?_, ?_⟩
    · obtain ⟨l1, h9⟩ := List.drop_suffix t (l.drop (i + 1))
      exact ⟨l1, by rw [List.drop_drop] at h9; exact h9⟩
    · have hg2 : l.getD (i + 1 + t) 0 = l[i + 1 + t] := by simp [ht]
      rw [hg2] at h2
      rw [hd2] at h3 ⊢
      simp only [Bool.and_eq_true]
      exact ⟨h2, h3⟩
  · rintro ⟨s, ⟨l1, hs⟩, h2⟩
    cases s with
    | nil => cases h2
    | cons y r =>
      simp only [Bool.and_eq_true] at h2
      have hlen : l1.length + (r.length + 1) = l.length - (i + 1) := by
        have := congrArg List.length hs
        simpa using this
      have ht : i + 1 + l1.length < l.length := by omega
      have hdr : l.drop (i + 1 + l1.length) = y :: r := by
        rw [← List.drop_drop, ← hs, List.drop_left]
      have hgy : l.getD (i + 1 + l1.length) 0 = y := by
        have h5 := List.drop_eq_getElem_cons ht
        rw [hdr] at h5
        simp only [List.cons.injEq] at h5
        simp [ht, h5.1]
      refine ⟨l1.length, by omega, by rw [hgy]; exact h2.1, by rw [hdr]; exact h2.2⟩
/-- one place further -/
theorem refG_step {g0 g1 : Int} {l : List Int} {i : Nat} (h : i < l.length) (last : Option Int) (k : Nat) : refG g0 g1 (l.drop i) last (k + 1) = if canF g0 g1 l k i && nearB g0 g1 last l[i] then (refG g0 g1 (l.drop (i + 1)) (some l[i]) k).map (l[i] :: ·) else refG g0 g1 (l.drop (i + 1)) last (k + 1) := by
  unfold canF
  rw [List.drop_eq_getElem_cons h]
  rfl
theorem refG_end {g0 g1 : Int} {l : List Int} {i : Nat} (h : l.length ≤ i) (last : Option Int) (k : Nat) : refG g0 g1 (l.drop i) last (k + 1) = none := by
  rw [List.drop_eq_nil_of_le h]
  rfl
end Go.Proofs.Ytfbnllmmoaialaa
namespace Go.Proofs.Ytfbnllmmoaialaa

theorem sumL_sum (l : List Int) : sumL l = l.sum := rfl
theorem walkM_is : ∀ (l : List Int) (m d : Int) (k : Nat) (hk : k < l.length), (∀ x ∈ l, 0 ≤ x) → 1 ≤ d → d ≤ l[k] → walkM l m ((l.take k).sum + d) = (m + k, d)
  | [], _, _, _, hk, _, _, _ => by simp at hk
  | n :: l, m, d, 0, _, _, h1, h2 => by
    have h2' : d ≤ n := by simpa using h2
    rw [List.take_zero, List.sum_nil, Int.zero_add, walkM, if_pos h2']
    simp
  | n :: l, m, d, k + 1, hk, hn, h1, h2 => by
    have hs : 0 ≤ (l.take k).sum := by
      have : ∀ l : List Int, (∀ x ∈ l, 0 ≤ x) → 0 ≤ l.sum := by
        intro l
        induction l with
        | nil => intro; simp
        | cons x l ih => intro h; simp only [List.sum_cons]; have := ih (fun y hy => h y (by simp [hy])); have := h x (by simp); omega
      exact this _ fun x hx => hn x (by simp [List.mem_of_mem_take hx])
    rw [List.take_succ_cons, List.sum_cons, walkM, if_neg (by omega), show n + (l.take k).sum + d - n = (l.take k).sum + d by omega, walkM_is l (m + 1) d k (by simpa using hk) (fun x hx => hn x (by simp [hx])) h1 (by simpa using h2)]
    rw [show m + 1 + (k : Int) = m + ((k + 1 : Nat) : Int) by omega]
theorem take_sum_le : ∀ (l : List Int) (k : Nat) (hk : k < l.length), (∀ x ∈ l, 0 ≤ x) → (l.take k).sum + l[k] ≤ l.sum
  | n :: l, 0, _, h => by
    have : ∀ l : List Int, (∀ x ∈ l, 0 ≤ x) → 0 ≤ l.sum := by
      intro l
      induction l with
      | nil => intro; simp
      | cons x l ih => intro h; simp only [List.sum_cons]; have := ih (fun y hy => h y (by simp [hy])); have := h x (by simp); omega
    have := this l (fun x hx => h x (by simp [hx]))
    simp; omega
  | n :: l, k + 1, hk, h => by
    have := take_sum_le l k (by simpa using hk) (fun x hx => h x (by simp [hx]))
    simp only [List.take_succ_cons, List.sum_cons, List.getElem_cons_succ]; omega
theorem extra_bd2 {r : Sol} (ok : SolOk r) {y : Int} (y0 : 0 ≤ y) : 0 ≤ extraN r y ∧ extraN r y ≤ 1 := by rw [extraN_eq ok y0]; split <;> omega
theorem monL_nn {x : Int} (x0 : 0 ≤ x) : ∀ y ∈ monL x, 0 ≤ y := by
  intro y hy
  simp only [monL, List.mem_cons, List.not_mem_nil, or_false] at hy
  rcases hy with rfl | rfl | rfl | rfl | rfl | rfl | rfl | rfl | rfl | rfl | rfl | rfl <;> omega
theorem take_nn {l : List Int} (h : ∀ x ∈ l, 0 ≤ x) (k : Nat) : 0 ≤ (l.take k).sum := by
  have : ∀ l : List Int, (∀ x ∈ l, 0 ≤ x) → 0 ≤ l.sum := by
    intro l
    induction l with
    | nil => intro; simp
    | cons x l ih => intro h; simp only [List.sum_cons]; have := ih (fun y hy => h y (by simp [hy])); have := h x (by simp); omega
  exact this _ fun x hx => h x (List.mem_of_mem_take hx)
/-- a date is the date of its day -/
theorem solI_is {r : Sol} (ok : SolOk r) {y k : Nat} {d day : Int} (hy : y ≤ 2740) (hk : k < (monL (extraN r y)).length) (h1 : 1 ≤ d) (h2 : d ≤ (monL (extraN r y))[k]) (hd : begI r y + ((monL (extraN r y)).take k).sum + d - 1 = day) : solI r day = ⟨(y : Int), (k : Int) + 1, d⟩ := by
  have hx := extra_bd2 ok (y := (y : Int)) (by omega)
  have hnn := monL_nn hx.1
  have ht := take_sum_le _ k hk hnn
  have h0 := take_nn hnn k
  rw [monL_sum] at ht
  have he : extraN r y = begI r ((y : Int) + 1) - begI r y - 365 := rfl
  have hyi : yearI r day = y := yearI_is ok (by omega) (by omega) hy
  unfold solI
  rw [hyi, show day - begI r y + 1 = ((monL (extraN r y)).take k).sum + d by omega, walkM_is _ 1 d k hk hnn h1 h2]
  simp only [SDate.mk.injEq, true_and, and_true]
  omega
/-- the next date -/
def nextS (a b : SDate) : Prop := (b.d = a.d + 1 ∧ b.m = a.m ∧ b.y = a.y) ∨ (b.d = 1 ∧ b.m = a.m + 1 ∧ b.y = a.y ∧ 28 ≤ a.d) ∨ (b.d = 1 ∧ b.m = 1 ∧ b.y = a.y + 1 ∧ a.m = 12 ∧ a.d = 31)
theorem sol_back {r : Sol} (ok : SolOk r) {day : Int} (d0 : 0 ≤ day) (d1 : day ≤ 999999) : dayR r (solI r day) = (day, 0) ∧ nextS (solI r day) (solI r (day + 1)) ∧ 0 ≤ (solI r day).y := by
  have hsp := solI_spec ok d0 (by omega : day ≤ 1000000)
  have hys := yearI_spec ok d0 (by omega : day ≤ 1000000)
  generalize yearI r day = y at hsp hys
  obtain ⟨k, hk2, e1, e2, e3, e4, e5'⟩ := hsp
  obtain ⟨g1, g2, g3⟩ := hys
  have hx := extra_bd2 ok (y := (y : Int)) (by omega)
  have hm := monL_bd hx.1 hx.2 hk2
  have hk12 : k < 12 := hk2
  obtain ⟨a, ha⟩ : ∃ a, a = solI r day := ⟨_, rfl⟩
  rw [← ha] at e1 e2 e3 e4 e5' ⊢
  obtain ⟨ay, am, ad⟩ := a
  simp only at e1 e2 e3 e4 e5'
  subst e1 e2
  refine ⟨?_, ?_, by simp only; omega⟩
  · unfold dayR
    have b1 : inB ((y : Int)) 0 4000 = true := inB_iff.2 (by omega)
    have b2 : inB ((k : Int) + 1) 1 12 = true := inB_iff.2 (by omega)
    have ek : ((k : Int) + 1 - 1).toNat = k := by omega
    have b3 : inB ad 1 ((monL (extraN r y)).getD k 0) = true := inB_iff.2 ⟨e4, by rw [List.getD_eq_getElem?_getD, List.getElem?_eq_getElem hk2]; exact e5'⟩
    have es : begI r y + ad - 1 + sumL ((monL (extraN r y)).take k) = day := by rw [sumL_sum]; omega
    simp only [solB_iff.2 ok, b1, b2, ek, b3, es, if_true, inB_iff.2 (show (0 : Int) ≤ day ∧ day ≤ 1000000 by omega)]
  · by_cases c1 : ad < (monL (extraN r y))[k]
    · rw [solI_is ok (day := day + 1) (d := ad + 1) (by omega) hk2 (by omega) (by omega) (by omega)]
      exact .inl ⟨rfl, rfl, rfl⟩
    · by_cases c2 : k < 11
      · have hk3 : k + 1 < (monL (extraN r y)).length := by show k + 1 < 12; omega
        have hm2 := monL_bd hx.1 hx.2 hk3
        have hts : ((monL (extraN r y)).take (k + 1)).sum = ((monL (extraN r y)).take k).sum + (monL (extraN r y))[k] := by
          rw [List.take_add_one, List.getElem?_eq_getElem hk2, List.sum_append]; simp; rfl
        rw [solI_is ok (day := day + 1) (k := k + 1) (d := 1) (by omega) hk3 (by omega) (by omega) (by rw [hts]; omega)]
        exact .inr (.inl ⟨rfl, by simp only; omega, rfl, by simp only; omega⟩)
      · obtain rfl : k = 11 := by omega
        have hx2 := extra_bd2 ok (y := ((y + 1 : Nat) : Int)) (by omega)
        have hk4 : 0 < (monL (extraN r ((y + 1 : Nat) : Int))).length := by show 0 < 12; omega
        have hm3 := monL_bd hx2.1 hx2.2 hk4
        have h31 : (monL (extraN r y))[11] = 31 := rfl
        have hsum : ((monL (extraN r y)).take 11).sum + 31 = 365 + extraN r y := by rw [← monL_sum]; simp [monL]; omega
        have he : extraN r y = begI r ((y : Int) + 1) - begI r y - 365 := rfl
        rw [solI_is ok (day := day + 1) (y := y + 1) (k := 0) (d := 1) (by omega) hk4 (by omega) (by omega) (by
          have : begI r ((y + 1 : Nat) : Int) = begI r ((y : Int) + 1) := by congr 1
          rw [this]; simp only [List.take_zero, List.sum_nil]; omega)]
        exact .inr (.inr ⟨rfl, by simp, by simp, by simp, by simp only; omega⟩)
/-! by the moon -/
def nextM (a b : LDate) : Prop := (b.d = a.d + 1 ∧ b.m = a.m ∧ b.y = a.y ∧ b.k = a.k) ∨ (b.d = 1 ∧ b.m = a.m + 1 ∧ b.y = a.y ∧ b.k = false ∧ 27 ≤ a.d) ∨ (b.d = 1 ∧ b.m = a.m ∧ b.y = a.y ∧ b.k = true ∧ a.k = false ∧ 27 ≤ a.d) ∨ (b.d = 1 ∧ b.m = 1 ∧ b.y = a.y + 1 ∧ b.k = false ∧ a.m = 12 ∧ 27 ≤ a.d)
/-- the name of a month of a year, by its number in it -/
def nameM (r : Lun) (y m0 : Int) : Int × Bool := if longM r y && decide (r.l < m0) then (m0 - 1, m0 == r.l + 1) else (m0, false)
theorem moonI_eq (r : Lun) (d : Int) : moonI r d = ⟨yI r d, (nameM r (yI r d) (mI r d - FI r (yI r d) + 1)).1, d - BI r (mI r d) + 1, (nameM r (yI r d) (mI r d - FI r (yI r d) + 1)).2⟩ := by
  unfold moonI nameM
  rw [show m0I r d = mI r d - FI r (yI r d) + 1 from rfl]
  split <;> rfl
theorem BI_ge {r : Lun} (ok : LunOk r) {n : Int} (h : 0 ≤ n) : 27 * n ≤ BI r n := by
  obtain ⟨p, d, f, y, m, s, l⟩ := ok
  unfold BI atW
  rw [Int.le_ediv_iff_mul_le (by omega)]
  have := Int.mul_le_mul_of_nonneg_left d.1 h
  have e : n * (27 * r.p) = 27 * n * r.p := by rw [← Int.mul_assoc, Int.mul_comm n 27]
  have e2 : n * r.d = r.d * n := Int.mul_comm _ _
  omega
theorem FI_ge {r : Lun} (ok : LunOk r) {n : Int} (h : 0 ≤ n) : 12 * n ≤ FI r n := by
  obtain ⟨p, d, f, y, m, s, l⟩ := ok
  unfold FI atW
  rw [Int.le_ediv_iff_mul_le (by omega)]
  have := Int.mul_le_mul_of_nonneg_left m.1 h
  have e : n * (12 * r.y) = 12 * n * r.y := by rw [← Int.mul_assoc, Int.mul_comm n 12]
  have e2 : n * r.m = r.m * n := Int.mul_comm _ _
  omega
theorem name_bd {r : Lun} (ok : LunOk r) {y m0 : Int} (h1 : 1 ≤ m0) (h2 : m0 ≤ FI r (y + 1) - FI r y) : 1 ≤ (nameM r y m0).1 ∧ (nameM r y m0).1 ≤ 12 ∧ ((nameM r y m0).2 = true → (nameM r y m0).1 = r.l ∧ longM r y = true) := by
  have h4 := FI_step ok y
  have h5 := ok.l
  unfold nameM
  split
  · rename_i h
    simp only [Bool.and_eq_true, decide_eq_true_eq] at h
    obtain ⟨h6, h7⟩ := h
    have h8 := longM_iff.1 h6
    refine ⟨by simp only; omega, by simp only; omega, fun h => ?_⟩
    simp only [beq_iff_eq] at h
    exact ⟨by simp only; omega, h6⟩
  · rename_i h
    simp only [Bool.and_eq_true, decide_eq_true_eq, not_and] at h
    refine ⟨h1, ?_, fun h => by simp at h⟩
    simp only
    by_cases hl : longM r y = true
    · have := h hl; omega
    · have hne : FI r (y + 1) - FI r y ≠ 13 := fun h => hl (longM_iff.2 h)
      omega
theorem monN_name {r : Lun} {y m0 d : Int} (h1 : 1 ≤ m0) : monN r ⟨y, (nameM r y m0).1, d, (nameM r y m0).2⟩ = FI r y + m0 - 1 := by
  unfold monN nameM
  cases hl : longM r y with
  | false => simp [hl]
  | true =>
    by_cases h : r.l < m0
    · simp only [hl, h, decide_true, Bool.and_self, if_true, Bool.true_and]
      by_cases h2 : m0 = r.l + 1
      · subst h2; simp; omega
      · rw [if_pos (by simp; left; omega)]; omega
    · simp only [hl, h, decide_false, Bool.and_false, Bool.false_eq_true, if_false, Bool.or_false, Bool.and_self]
theorem moon_back {r : Lun} (ok : LunOk r) {day : Int} (d0 : 0 ≤ day) (d1 : day ≤ 999999) : ldayR r (moonI r day) = (day, 0) ∧ nextM (moonI r day) (moonI r (day + 1)) ∧ 0 ≤ (moonI r day).y ∧ ((moonI r day).k = true → (moonI r day).m = r.l) := by
  have h1 := mI_spec ok day
  have h2 := yI_spec ok day
  have h3 := BI_step ok (mI r day)
  have h4 := FI_step ok (yI r day)
  have hm0 := (mI_bd ok d0 (by omega)).1
  have hy0 := (yI_bd ok d0 (by omega)).1
  have hb := BI_ge ok hm0
  have hf := FI_ge ok hy0
  have h1n := mI_is ok (d := day + 1) (n := mI r day)
  have h2n := mI_is ok (d := day + 1) (n := mI r day + 1)
  have hy1 := fun h => yI_is ok (d := day + 1) (y := yI r day) h
  have hy2 := fun h => yI_is ok (d := day + 1) (y := yI r day + 1) h
  have h3b := BI_step ok (mI r day + 1)
  have h4b := FI_step ok (yI r day + 1)
  rw [moonI_eq r day, moonI_eq r (day + 1)]
  generalize mI r day = M at *
  generalize yI r day = Y at *
  obtain ⟨n1, n2, n3⟩ := name_bd ok (y := Y) (m0 := M - FI r Y + 1) (by omega) (by omega)
  have hmn := monN_name (r := r) (y := Y) (m0 := M - FI r Y + 1) (d := day - BI r M + 1) (by omega)
  have hmn2 : FI r Y + (M - FI r Y + 1) - 1 = M := by omega
  rw [hmn2] at hmn
  refine ⟨?_, ?_, hy0, fun h => (n3 h).1⟩
  · have b1 : inB Y 0 4000 = true := inB_iff.2 (by omega)
    have b2 : badL r ⟨Y, (nameM r Y (M - FI r Y + 1)).1, day - BI r M + 1, (nameM r Y (M - FI r Y + 1)).2⟩ = false := by
      unfold badL
      rw [hmn]
      have c1 : inB (nameM r Y (M - FI r Y + 1)).1 1 12 = true := inB_iff.2 ⟨n1, n2⟩
      have c2 : inB (day - BI r M + 1) 1 (BI r (M + 1) - BI r M) = true := inB_iff.2 (by omega)
      simp only [c1, c2, Bool.not_true, Bool.or_false, Bool.false_or]
      cases hk : (nameM r Y (M - FI r Y + 1)).2 with
      | false => rfl
      | true => obtain ⟨q1, q2⟩ := n3 hk; rw [q1, q2]; simp
    unfold ldayR
    simp only [lunB_iff.2 ok, b1, b2, hmn, if_true, Bool.false_eq_true, if_false, show BI r M + (day - BI r M + 1) - 1 = day by omega, inB_iff.2 (show (0 : Int) ≤ day ∧ day ≤ 1000000 by omega)]
  · by_cases c1 : day + 1 < BI r (M + 1)
    · have e1 := h1n (by omega) c1
      have e2 := hy1 (by rw [e1]; exact h2.1) (by rw [e1]; exact h2.2)
      rw [e1, e2]
      exact .inl ⟨by simp only; omega, rfl, rfl, rfl⟩
    · have e1 := h2n (by omega) (by omega)
      by_cases c2 : M + 1 < FI r (Y + 1)
      · have e2 := hy1 (by rw [e1]; omega) (by rw [e1]; exact c2)
        rw [e1, e2]
        unfold nameM
        cases hl : longM r Y with
        | false =>
          simp only [Bool.false_and, Bool.false_eq_true, if_false]
          exact .inr (.inl ⟨by simp only; omega, by simp only; omega, rfl, rfl, by simp only; omega⟩)
        | true =>
          simp only [Bool.true_and, decide_eq_true_eq]
          by_cases g1 : r.l < M - FI r Y + 1
          · rw [if_pos g1, if_pos (by omega)]
            exact .inr (.inl ⟨by simp only; omega, by simp only; omega, rfl, by simp only [beq_eq_false_iff_ne]; omega, by simp only; omega⟩)
          · rw [if_neg g1]
            by_cases g2 : r.l < M + 1 - FI r Y + 1
            · rw [if_pos g2]
              exact .inr (.inr (.inl ⟨by simp only; omega, by simp only; omega, rfl, by simp only [beq_iff_eq]; omega, rfl, by simp only; omega⟩))
            · rw [if_neg g2]
              exact .inr (.inl ⟨by simp only; omega, by simp only; omega, rfl, rfl, by simp only; omega⟩)
      · have e2 := hy2 (by rw [e1]; omega) (by rw [e1]; omega)
        rw [e1, e2]
        have hl5 := ok.l
        have k1 : nameM r (Y + 1) (M + 1 - FI r (Y + 1) + 1) = (1, false) := by
          unfold nameM
          rw [show M + 1 - FI r (Y + 1) + 1 = 1 by omega, if_neg (by simp; omega)]
        have k2 : (nameM r Y (M - FI r Y + 1)).1 = 12 := by
          unfold nameM
          cases hl : longM r Y with
          | false =>
            have hne : FI r (Y + 1) - FI r Y ≠ 13 := fun h => by rw [longM_iff.2 h] at hl; cases hl
            simp; omega
          | true =>
            have := longM_iff.1 hl
            rw [if_pos (by simp; omega)]; simp only; omega
        rw [k1, k2]
        exact .inr (.inr (.inr ⟨by simp only; omega, rfl, rfl, rfl, rfl, by simp only; omega⟩))
end Go.Proofs.Ytfbnllmmoaialaa
namespace Go.Proofs.Ytfbnllmmoaialaa

/-- the next month's name: whether it is the repeated one -/
def leapS (lb : Bool) (l : Int) (q : Int × Bool) : Bool := lb && (q.1 == l) && !q.2
theorem nameM_zero {r : Lun} (ok : LunOk r) (y : Int) : nameM r y 0 = (0, false) := by
  have := ok.l
  unfold nameM
  rw [if_neg (by simp; intro _; omega)]
theorem nameM_step {r : Lun} {y t : Int} (t0 : 0 ≤ t) (hl : 1 ≤ r.l) : nameM r y (t + 1) = ((if leapS (longM r y) r.l (nameM r y t) then (nameM r y t).1 else (nameM r y t).1 + 1), leapS (longM r y) r.l (nameM r y t)) := by
  unfold leapS nameM
  cases longM r y with
  | false => simp
  | true =>
    by_cases h1 : r.l < t
    · have h2 : r.l < t + 1 := by omega
      by_cases h3 : t = r.l + 1
      · subst h3
        simp [h1, h2]
        omega
      · have h4 : ¬ (t - 1 = r.l) := by omega
        have h5 : ¬ (t = r.l) := by omega
        have h6 : (t + 1 == r.l + 1) = false := by simp; omega
        have h7 : (t - 1 == r.l) = false := by simp; omega
        simp [h1, h2, h4, h5, h3, h6, h7]
    · by_cases h3 : t = r.l
      · subst h3
        simp [show ¬ (r.l < r.l) by omega, show r.l < r.l + 1 by omega]
      · have h4 : ¬ (r.l < t + 1) := by omega
        simp [h1, h3, h4]
theorem name_of {r : Lun} (ok : LunOk r) {y m : Int} {k : Bool} (m0 : 1 ≤ m) (m1 : m ≤ 12) (hk : k = true → longM r y = true ∧ m = r.l) : ∃ t : Nat, 1 ≤ t ∧ (t : Int) ≤ FI r (y + 1) - FI r y ∧ nameM r y t = (m, k) := by
  have hF := FI_step ok y
  cases hl : longM r y with
  | false =>
    have hk2 : k = false := by
      cases k with
      | false => rfl
      | true => have := (hk rfl).1; rw [hl] at this; cases this
    refine ⟨m.toNat, by omega, by omega, ?_⟩
    unfold nameM
    simp only [hl, Bool.false_and, Bool.false_eq_true, if_false, hk2, Prod.mk.injEq, and_true]
    omega
  | true =>
    have h13 := longM_iff.1 hl
    cases k with
    | true =>
      have hm := (hk rfl).2
      refine ⟨(m + 1).toNat, by omega, by omega, ?_⟩
      have e : ((m + 1).toNat : Int) = m + 1 := by omega
      rw [e]
      unfold nameM
      rw [if_pos (by simp [hl]; omega)]
      simp only [Prod.mk.injEq, beq_iff_eq]
      omega
    | false =>
      by_cases hlm : r.l < m
      · refine ⟨(m + 1).toNat, by omega, by omega, ?_⟩
        have e : ((m + 1).toNat : Int) = m + 1 := by omega
        rw [e]
        unfold nameM
        rw [if_pos (by simp [hl]; omega)]
        simp only [Prod.mk.injEq, beq_eq_false_iff_ne]
        omega
      · refine ⟨m.toNat, by omega, by omega, ?_⟩
        have e : (m.toNat : Int) = m := by omega
        rw [e]
        unfold nameM
        rw [if_neg (by simp; intro _; omega)]
/-- a date whose month is found -/
theorem lday_hit {r : Lun} (hb : lunB r = true) {y t d m : Int} {k : Bool} (hy : inB y 0 4000 = true) (t0 : 1 ≤ t) (t1 : t ≤ FI r (y + 1) - FI r y) (hn : nameM r y t = (m, k)) : ldayR r ⟨y, m, d, k⟩ = if inB d 1 (BI r (FI r y + t - 1 + 1) - BI r (FI r y + t - 1)) then (if inB (BI r (FI r y + t - 1) + d - 1) 0 1000000 then (BI r (FI r y + t - 1) + d - 1, 0) else (0, 3)) else (0, 7) := by
  have ok := lunB_iff.1 hb
  obtain ⟨n1, n2, n3⟩ := name_bd ok t0 t1
  have hM := monN_name (r := r) (y := y) (d := d) t0
  rw [hn] at n1 n2 n3 hM
  simp only at n1 n2 n3 hM
  have hbad : badL r ⟨y, m, d, k⟩ = !(inB d 1 (BI r (FI r y + t - 1 + 1) - BI r (FI r y + t - 1))) := by
    unfold badL
    rw [hM, show inB m 1 12 = true from inB_iff.2 ⟨n1, n2⟩]
    cases k with
    | false => simp
    | true => obtain ⟨e1, e2⟩ := n3 rfl; simp [e1, e2]
  unfold ldayR
  rw [if_pos hb, if_pos hy, hbad, hM]
  cases inB d 1 (BI r (FI r y + t - 1 + 1) - BI r (FI r y + t - 1)) <;> rfl
/-- a date whose month is not found -/
theorem lday_miss {r : Lun} (hb : lunB r = true) {y d m : Int} {k : Bool} (hy : inB y 0 4000 = true) (h : ∀ t : Nat, 1 ≤ t → (t : Int) ≤ FI r (y + 1) - FI r y → nameM r y t ≠ (m, k)) : ldayR r ⟨y, m, d, k⟩ = (0, 7) := by
  have ok := lunB_iff.1 hb
  have hbad : badL r ⟨y, m, d, k⟩ = true := by
    cases hb2 : badL r ⟨y, m, d, k⟩ with
    | true => rfl
    | false =>
      unfold badL at hb2
      simp only [Bool.or_eq_false_iff, Bool.not_eq_false', Bool.and_eq_false_iff, inB_iff] at hb2
      obtain ⟨⟨m0, m1⟩, h2, -⟩ := hb2
      obtain ⟨t, t0, t1, hn⟩ := name_of ok (k := k) m0 m1 (fun hk => by
        rcases h2 with h2 | ⟨h3, h4⟩
        · rw [hk] at h2; cases h2
        · exact ⟨h3, by simpa using h4⟩)
      exact absurd hn (h t t0 t1)
  unfold ldayR
  rw [if_pos hb, if_pos hy, hbad]
  rfl
end Go.Proofs.Ytfbnllmmoaialaa

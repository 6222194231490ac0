/- almanac: the law AlmanacSuits returns true. -/
import Derived.Test.YtfbnllmmoaialaaZ30RfP
import Derived.Test.YtfbnllmmoaialaaRfM
import Derived.Test.YtfbnllmmoaialaaZ29Bf
namespace Go.Proofs.Ytfbnllmmoaialaa
open Go.RowKit

/-- the error before the persons' rules are looked at -/
def sI (x : Alm) (n : Nat) : Int := if almB x then (if 10 < n then 5 else 0) else 2
def sW (x : Alm) (ps : List DPs) (j : Nat) : Int := if sI x ps.length = 0 then chkP x.cycles (ps.take j) else sI x ps.length
theorem sI_zero {x : Alm} {n : Nat} (h : sI x n = 0) : almB x = true ∧ n ≤ 10 := by
  unfold sI at h
  split at h
  · split at h
    · cases h
    · exact ⟨by assumption, by omega⟩
  · cases h
theorem sW_zero (x : Alm) (ps : List DPs) : sW x ps 0 = sI x ps.length := by
  unfold sW
  split
  · rename_i h; rw [List.take_zero, h]; rfl
  · rfl
theorem sW_all (x : Alm) (ps : List DPs) : sW x ps ps.length = comE x ps := by
  unfold sW comE sI
  rw [List.take_length]
  by_cases h : almB x = true
  · rw [if_pos h, if_pos h]
    by_cases h2 : 10 < ps.length
    · rw [if_pos h2, if_pos h2]; rfl
    · rw [if_neg h2, if_neg h2]; rfl
  · rw [if_neg h, if_neg h]; rfl
theorem sW_x {x : Alm} {ps : List DPs} {j : Nat} (h : sW x ps j = 0) : almB x = true := by
  unfold sW at h
  split at h
  · rename_i h2; exact (sI_zero h2).1
  · rename_i h2; exact absurd h h2
theorem sW_succ (x : Alm) (ps : List DPs) {j : Nat} (hj : j < ps.length) : sW x ps (j + 1) = if sW x ps j = 0 then chkE x.cycles ps[j].rules else sW x ps j := by
  by_cases h : sI x ps.length = 0
  · have e : ∀ n, sW x ps n = chkP x.cycles (ps.take n) := fun n => by unfold sW; rw [if_pos h]
    rw [e, e, List.take_succ_eq_append_getElem hj, chkP_app]
    have e2 : chkP x.cycles [ps[j]] = chkE x.cycles ps[j].rules := by
      simp only [chkP]
      split
      · rename_i h3; exact h3.symm
      · rfl
    rw [e2]
  · have e : ∀ n, sW x ps n = sI x ps.length := fun n => by unfold sW; rw [if_neg h]
    rw [e, e, if_neg h]
/-- the error behind the span -/
def sS (x : Alm) (ps : List DPs) (a b : Int) : Int := if comE x ps = 0 ∧ spanB a b = false then 3 else comE x ps
theorem rrules_val {x : Alm} {A2 : Option Addr} {c2 : Nat} {rs : List DRl} {v : Int} (h : chkE x.cycles rs = v) (w : World) (hx : almB x = true) (hcx : Sl Cyc.cells 2 w w.heap.size x.a x.cycles) (hr : RlsAt w w.heap.size A2 rs) :
    Calls Try.prog 51 #[.agg x.cells.toArray, .slice A2 rs.length c2] w fun e w' => e = .returned (.int .i64 v) ∧ Below w.heap.size w w' := h ▸ rrules_any x A2 c2 rs w hx hcx hr
theorem llong_val {a b : Int} {v : Bool} (h : lngB a b = v) (w : World) : Calls Try.prog 16 #[.agg #[.int .i64 a, .int .i64 b]] w fun e w' => e = .returned (.bool v) ∧ Below w.heap.size w w' := h ▸ llong_any a b w
theorem ralmanacX (x : Alm) (w : World) (hl : x.cycles.length ≤ 9223372036854775807) (hr : Sl Cyc.cells 2 w w.heap.size x.a x.cycles) : Calls Try.prog 38 #[.agg x.cells.toArray] w fun en w' => en = .returned (.bool (almB x)) ∧ Below w.heap.size w w' :=
  ralmanac_any x.a x.c x.cycles x.sol.e x.sol.b x.sol.u x.lun.d x.lun.p x.lun.f x.lun.m x.lun.y x.lun.s x.lun.l w hl hr
set_option maxRecDepth 100000 in
set_option maxHeartbeats 16000000 in
theorem lwsuits_any (x : Alm) (A2 : Option Addr) (c2 : Nat) (ps : List DPs) (fr to_ : Int) (w : World) (hz : x.a = none → x.c = 0) (hlm : x.cycles.length ≤ 9223372036854775807) (hcx : Sl Cyc.cells 2 w w.heap.size x.a x.cycles) (hr : PsW w w.heap.size A2 ps) (h9 : ps.length ≤ 15) (hlo : lngB fr to_ = false) :
    Calls Try.prog 9 #[.agg x.cells.toArray, .slice A2 ps.length c2, .agg #[.int .i64 fr, .int .i64 to_]] w fun en w' => en = .returned (.bool true) ∧ Below w.heap.size w w' := by
  have HLG := Lib.hid (fun p (hp : p ∈ ps) W (hW : Below w.heap.size w W) => large_any x p.a p.c p.rules W (((hr.rul p hp).1.below hW).more hW.size))
  have HRL := Lib.hid (fun p (hp : p ∈ ps) (hg : largeB x p.rules = false) W (hW : Below w.heap.size w W) => by
    obtain ⟨h1, h2, h3⟩ := not_large hg
    have hri : RlsIn w p.a p.rules := ⟨(hr.rul p hp).1.at_ (by omega) (fun r h => by have := h3 r h; omega), fun r h => ((hr.rul p hp).1.rul r h).nil⟩
    exact rules_any p.a p.c p.rules W ((hri.at_.below hW).more hW.size) hri.nil (by omega))
  have HAT := Lib.hid (fun p (hp : p ∈ ps) (hg : largeB x p.rules = false) => by
    obtain ⟨h1, h2, h3⟩ := not_large hg
    exact (hr.rul p hp).1.at_ (by omega) (fun r h => by have := h3 r h; omega))
  have HRR := Lib.hid (fun p (hp : p ∈ ps) (hg : largeB x p.rules = false) (hx : almB x = true) v (hv : chkE x.cycles p.rules = v) W (hW : Below w.heap.size w W) => rrules_val (A2 := p.a) (c2 := p.c) hv W hx ((hcx.below hW).more hW.size) (((HAT.out p hp hg).below hW).more hW.size))
  have HRA := Lib.hid (fun W (hW : Below w.heap.size w W) => ralmanacX x W hlm ((hcx.below hW).more hW.size))
  have HOW := Lib.hid (fun (hlx : x.cycles.length ≤ 1000000) W (hW : Below w.heap.size w W) => ownF_any x W hz hlx ((hcx.below hW).more hW.size))
  have HDY := Lib.hid (fun (hx : almB x = true) (hsp : spanB fr to_ = true) (hv : ∀ p ∈ ps, ∀ r ∈ p.rules, badR x.cycles r = false) (hg : ∀ p ∈ ps, largeB x p.rules = false) W (hW : Below w.heap.size w W) => by
    obtain ⟨⟨q1, q2⟩, ⟨q3, q4⟩, q5, q6⟩ := spanB_iff.1 hsp
    exact rdays_any x A2 c2 ps fr to_ W hx q1 q4 (by omega) q6 hv ((hcx.below hW).more hW.size) ⟨by omega, (hr.sl.below hW).more hW.size, fun p hp => ((HAT.out p hp (hg p hp)).below hW).more hW.size⟩)
  have HLO := Lib.hid (fun W => llong_val hlo W)
  have HPW := Lib.hid hr.sl
  have q2 : decide ((15 : Int) < (ps.length : Int)) = false := by simp; omega
  obtain ⟨i0, hi, iz0, iz1, iz2⟩ := info_parts infoRls
  obtain ⟨⟨n, E⟩, hR⟩ : ∃ z, comR x ps fr to_ = z := ⟨_, rfl⟩
  have HCR := Lib.hid hR
  obtain ⟨X, hX⟩ : ∃ X, X = x := ⟨_, rfl⟩
  have HXX := Lib.hid hX
  obtain ⟨ab, hab⟩ : ∃ v, v = almB x := ⟨_, rfl⟩
  rw [← hab] at HRA
  have HAB : Hid (ab = almB X) := (by rw [hX]; exact hab : ab = almB X)
  clear hr hcx hR hz hX hab hlo HAT hlm
  obtain ⟨A, c, l, ⟨e, b, u⟩, ⟨d, p, f, m, y, s, k⟩⟩ := x
  rw [← HXX.out] at HRL HCR
  have HLG2 : Hid (∀ q ∈ ps, ∀ W, Below w.heap.size w W → Calls Try.prog 15 #[.agg (Alm.cells ⟨A, c, l, ⟨e, b, u⟩, ⟨d, p, f, m, y, s, k⟩⟩).toArray, .slice q.a q.rules.length q.c] W fun e w' => e = .returned (.bool (largeB X q.rules)) ∧ Below W.heap.size W w') := (by rw [HXX.out]; exact HLG.out : ∀ q ∈ ps, ∀ W, Below w.heap.size w W → Calls Try.prog 15 #[.agg (Alm.cells ⟨A, c, l, ⟨e, b, u⟩, ⟨d, p, f, m, y, s, k⟩⟩).toArray, .slice q.a q.rules.length q.c] W fun e w' => e = .returned (.bool (largeB X q.rules)) ∧ Below W.heap.size W w')
  have HRR2 : Hid (∀ q ∈ ps, largeB X q.rules = false → almB X = true → ∀ v, chkE X.cycles q.rules = v → ∀ W, Below w.heap.size w W → Calls Try.prog 51 #[.agg (Alm.cells ⟨A, c, l, ⟨e, b, u⟩, ⟨d, p, f, m, y, s, k⟩⟩).toArray, .slice q.a q.rules.length q.c] W fun e w' => e = .returned (.int .i64 v) ∧ Below W.heap.size W w') := (by rw [HXX.out]; exact HRR.out : ∀ q ∈ ps, largeB X q.rules = false → almB X = true → ∀ v, chkE X.cycles q.rules = v → ∀ W, Below w.heap.size w W → Calls Try.prog 51 #[.agg (Alm.cells ⟨A, c, l, ⟨e, b, u⟩, ⟨d, p, f, m, y, s, k⟩⟩).toArray, .slice q.a q.rules.length q.c] W fun e w' => e = .returned (.int .i64 v) ∧ Below W.heap.size W w')
  have HDY2 : Hid (almB X = true → spanB fr to_ = true → (∀ q ∈ ps, ∀ r ∈ q.rules, badR X.cycles r = false) → (∀ q ∈ ps, largeB X q.rules = false) → ∀ W, Below w.heap.size w W → Calls Try.prog 24 #[.agg (Alm.cells ⟨A, c, l, ⟨e, b, u⟩, ⟨d, p, f, m, y, s, k⟩⟩).toArray, .slice A2 ps.length c2, .int .i64 fr, .int .i64 to_] W fun e w' => ∃ A c, e = .returned (.slice A (daysL X ps fr to_).length c) ∧ Sl intCell 1 w' w'.heap.size A (daysL X ps fr to_) ∧ (A = none → c = 0) ∧ Below W.heap.size W w') := (by rw [HXX.out]; exact HDY.out : almB X = true → spanB fr to_ = true → (∀ q ∈ ps, ∀ r ∈ q.rules, badR X.cycles r = false) → (∀ q ∈ ps, largeB X q.rules = false) → ∀ W, Below w.heap.size w W → Calls Try.prog 24 #[.agg (Alm.cells ⟨A, c, l, ⟨e, b, u⟩, ⟨d, p, f, m, y, s, k⟩⟩).toArray, .slice A2 ps.length c2, .int .i64 fr, .int .i64 to_] W fun e w' => ∃ A c, e = .returned (.slice A (daysL X ps fr to_).length c) ∧ Sl intCell 1 w' w'.heap.size A (daysL X ps fr to_) ∧ (A = none → c = 0) ∧ Below W.heap.size W w')
  simp only [Alm.cells] at HLG2 HRR2 HDY2 HOW HRA ⊢
  clear HLG HRR HDY
  go_enter Try.func9, Try.ntmps9
  go_upto_region 1 with fail
  refine gen_w (fun W => Blk W w.heap.size #[.slice A l.length c, .int .i64 e, .int .i64 b, .int .i64 u, .int .i64 d, .int .i64 p, .int .i64 f, .int .i64 m, .int .i64 y, .int .i64 s, .int .i64 k] 28 ∧ Blk W (w.heap.size + 1) #[.int .i64 fr, .int .i64 to_] 36 ∧ Below w.heap.size w W) ⟨(Blk.at_ rfl).alloc _, Blk.at_ (by simp), by (repeat (first | exact Below.refl _ _ | assumption | (refine Below.alloc ?_ (by first | omega | (simp; omega) | (simp; done)) _) | (refine Below.setCell ?_ (by first | omega | (simp; omega) | (simp; done)) _) | (refine Below.drew ?_) | (refine belowN ?_ _) | (refine Below.trans ?_ (Below.mono ‹Below _ _ _› (by first | omega | (simp; omega) | (simp; done))))))⟩ ?_
  rintro V0 ⟨ga, gt, hw⟩
  (have z0 := ga.cell 0; have z1 := ga.cell 1; have z2 := ga.cell 2; have z3 := ga.cell 3; have z4 := ga.cell 4; have z5 := ga.cell 5; have z6 := ga.cell 6; have z7 := ga.cell 7; have z8 := ga.cell 8; have z9 := ga.cell 9; have z10 := ga.cell 10; simp at z0 z1 z2 z3 z4 z5 z6 z7 z8 z9 z10; have u0 := gt.cell 0; have u1 := gt.cell 1; simp at u0 u1)
  --T in
  go_upto_region 3 with (go_at_call 16; refine (HLO.out _).mono ?_; rintro _ V1 ⟨rfl, hb1⟩; have hw := bl2 hw hb1; have ga := ga.below hb1 ga.lt; have gt := gt.below hb1 gt.lt; (have z0 := ga.cell 0; have z1 := ga.cell 1; have z2 := ga.cell 2; have z3 := ga.cell 3; have z4 := ga.cell 4; have z5 := ga.cell 5; have z6 := ga.cell 6; have z7 := ga.cell 7; have z8 := ga.cell 8; have z9 := ga.cell 9; have z10 := ga.cell 10; simp at z0 z1 z2 z3 z4 z5 z6 z7 z8 z9 z10; have u0 := gt.cell 0; have u1 := gt.cell 1; simp at u0 u1))
  have hV0 := gt.lt
  go_upto_region 4 with fail
  obtain ⟨vb, hvb⟩ : ∃ z, z = V1.heap.size := ⟨_, rfl⟩
  rw [← hvb]
  refine gen_w (fun W => Blk W w.heap.size #[.slice A l.length c, .int .i64 e, .int .i64 b, .int .i64 u, .int .i64 d, .int .i64 p, .int .i64 f, .int .i64 m, .int .i64 y, .int .i64 s, .int .i64 k] 28 ∧ Blk W (w.heap.size + 1) #[.int .i64 fr, .int .i64 to_] 36 ∧ Below w.heap.size w W ∧ PsO W (w.heap.size + 2) (.slice (some ⟨vb, 0, none⟩) 0 0) []) ⟨ga.alloc _, gt.alloc _, bla hw, ⟨by rw [hvb]; exact World.ownsRow_made (e := 29) (size := 1) V1 #[] 0 (base := w.heap.size + 2) (by omega) (by simp) (by simp), fun q hq => by cases hq⟩⟩ ?_
  (clear z0 z1 z2 z3 z4 z5 z6 z7 z8 z9 z10 u0 u1)
  clear ga gt hw hV0 hvb hb1
  rintro V9 ⟨ga, gt, hw, hpo⟩
  have HPO := Lib.hid hpo
  clear hpo
  (have z0 := ga.cell 0; have z1 := ga.cell 1; have z2 := ga.cell 2; have z3 := ga.cell 3; have z4 := ga.cell 4; have z5 := ga.cell 5; have z6 := ga.cell 6; have z7 := ga.cell 7; have z8 := ga.cell 8; have z9 := ga.cell 9; have z10 := ga.cell 10; simp at z0 z1 z2 z3 z4 z5 z6 z7 z8 z9 z10; have u0 := gt.cell 0; have u1 := gt.cell 1; simp at u0 u1)
  --T r4
  go_upto_if 24 with (go_at_call 38; (with_reducible refine (HRA.out _ hw).mono ?_); rintro _ V2 ⟨rfl, hb1⟩; have hw := bl2 hw hb1; have ga := ga.below hb1 ga.lt; have gt := gt.below hb1 gt.lt; (have z0 := ga.cell 0; have z1 := ga.cell 1; have z2 := ga.cell 2; have z3 := ga.cell 3; have z4 := ga.cell 4; have z5 := ga.cell 5; have z6 := ga.cell 6; have z7 := ga.cell 7; have z8 := ga.cell 8; have z9 := ga.cell 9; have z10 := ga.cell 10; simp at z0 z1 z2 z3 z4 z5 z6 z7 z8 z9 z10; have u0 := gt.cell 0; have u1 := gt.cell 1; simp at u0 u1))
  (clear z0 z1 z2 z3 z4 z5 z6 z7 z8 z9 z10 u0 u1)
  have HW2 := Lib.hid hw; have HG2 := Lib.hid ga; have HT2 := Lib.hid gt; have HP2 := Lib.hid (HPO.out.below hb1)
  clear hw ga gt HPO hb1
  go_cut [8] (fun s8 wx => s8 = .int .i64 (sI X ps.length) ∧ V2 = wx)
  case first =>
    have HSI : Hid (sI X ps.length = if ab then (if 10 < ps.length then 5 else 0) else 2) := (by rw [HAB.out]; rfl : sI X ps.length = _)
    cases ab with
    | false =>
      go_wp2_with fail
      go_meet
      exact ⟨by rw [HSI.out]; rfl, rfl⟩
    | true =>
      by_cases h10 : 10 < ps.length
      · have d1 : decide ((10 : Int) < (ps.length : Int)) = true := decide_eq_true (by omega)
        have HS2 : Hid (sI X ps.length = 5) := (by rw [HSI.out, if_pos rfl, if_pos h10] : sI X ps.length = 5)
        clear HSI h10
        go_wp2_with fail
        go_meet
        exact ⟨by rw [HS2.out], rfl⟩
      · have d1 : decide ((10 : Int) < (ps.length : Int)) = false := decide_eq_false (by omega)
        have HS2 : Hid (sI X ps.length = 0) := (by rw [HSI.out, if_pos rfl, if_neg h10] : sI X ps.length = 0)
        clear HSI h10
        go_wp2_with fail
        go_meet
        exact ⟨by rw [HS2.out], rfl⟩
  case rest =>
    obtain ⟨rfl, rfl⟩ := hcut
    clear HAB HRA HLO
    --T r8
    go_upto_region 8 with fail
    go_wp2_with fail
    go_loopw [7, 8, 9] (fun v wn i wr => ∃ (j : Nat) (l' : List DPs), j ≤ ps.length ∧ i = .int .i64 (j : Int) ∧ wn = .int .i64 (sW X ps j) ∧ Hid (PsO wr (w.heap.size + 2) v l') ∧ Hid (l'.map DPs.pl = (ps.take j).map DPs.pl) ∧ Hid (∀ q ∈ ps.take j, largeB X q.rules = false) ∧ Hid (Below w.heap.size w wr) ∧ Hid (Blk wr w.heap.size #[.slice A l.length c, .int .i64 e, .int .i64 b, .int .i64 u, .int .i64 d, .int .i64 p, .int .i64 f, .int .i64 m, .int .i64 y, .int .i64 s, .int .i64 k] 28) ∧ Hid (Blk wr (w.heap.size + 1) #[.int .i64 fr, .int .i64 to_] 36)) (fun _ _ i _ => ps.length - (intOf i).toNat)
    case atStart => exact ⟨0, [], by omega, rfl, by rw [sW_zero], HP2.out, rfl, fun q hq => by simp at hq, HW2.out, HG2.out, HT2.out⟩
    case round =>
      clear HW2 HG2 HT2 HP2
      obtain ⟨j, l', hj, rfl, rfl, HPO, HPL, HNL, hbw, hga, hgt⟩ := hrel
      have hw := hbw.out; have ga := hga.out; have gt := hgt.out
      clear hbw hga hgt
      (have z0 := ga.cell 0; have z1 := ga.cell 1; have z2 := ga.cell 2; have z3 := ga.cell 3; have z4 := ga.cell 4; have z5 := ga.cell 5; have z6 := ga.cell 6; have z7 := ga.cell 7; have z8 := ga.cell 8; have z9 := ga.cell 9; have z10 := ga.cell 10; simp at z0 z1 z2 z3 z4 z5 z6 z7 z8 z9 z10; have u0 := gt.cell 0; have u1 := gt.cell 1; simp at u0 u1)
      by_cases hlt : j < ps.length
      · --D<rnd
        have t1 : decide ((j : Int) < (ps.length : Int)) = true := decide_eq_true (by omega)
        obtain ⟨rb, ro, rfl, hrb, hrc⟩ := persons_cell HPW.out (by omega)
        have HTK := Lib.hid (List.take_succ_eq_append_getElem hlt)
        have HSW := Lib.hid (sW_succ X ps hlt)
        have HLQ := Lib.hid (HLG2.out _ (List.getElem_mem hlt))
        have HRU0 := Lib.hid (HRL.out _ (List.getElem_mem hlt))
        have HRF := Lib.hid (HRR2.out _ (List.getElem_mem hlt))
        have HR0 := Lib.hid (hrc j hlt)
        have r0 := (hw.cell (p := ⟨rb, ro + j, none⟩) hrb).trans HR0.out
        have hll : l'.length ≤ 15 := by
          have := pl_len HPL.out
          rw [List.length_take] at this
          omega
        obtain ⟨q, hq⟩ : ∃ q, q = ps[j] := ⟨_, rfl⟩
        rw [← hq] at HLQ HRU0 HRF HR0 r0 HTK HSW
        obtain ⟨pa, pc, rs⟩ := q
        simp only at HLQ HRU0 HRF r0 HR0 HSW
        obtain ⟨lg, hlg⟩ : ∃ v, v = largeB X rs := ⟨_, rfl⟩
        rw [← hlg] at HLQ HRU0 HRF
        have HLV := Lib.hid hlg
        have HLW := Lib.hid (fun W (hW : Below wr.heap.size wr W) => HLQ.out W (bl2 hw hW))
        have j0 : (0 : Int) ≤ (j : Int) := by omega
        have j1 : (j : Int) < (ps.length : Int) := by omega
        have hrbw : rb < wr.heap.size := by have := hw.size; omega
        clear hq hlg HLQ hrc
        go_upto_region 11 with fail
        (refine wp_region_ext (by kernel_rfl) (by kernel_rfl) ?_; (repeat (go_big_quiet_step((go_at_call 15; with_reducible exact Calls.ext_of (HLW.out _ (ext_below ⟨_, rfl⟩)))))); with_reducible refine wpQuiet_nil ?_; intro w1 hw1; have hb1 := ext_below hw1; clear hw1)
        have r0 := (hb1.cell (p := ⟨rb, ro + j, none⟩) hrbw).trans r0
        have hw := bl2 hw hb1
        have ga := ga.below hb1 ga.lt
        have gt := gt.below hb1 gt.lt
        have HPO := Lib.hid (HPO.out.below hb1)
        clear hb1 HLW
        (clear z0 z1 z2 z3 z4 z5 z6 z7 z8 z9 z10 u0 u1)
        cases lg with
        | true =>
          go_wp2_with (go_at_call 17; refine (known_any _).mono ?_; rintro _ V1 ⟨rfl, hb1⟩; have hw := bl2 hw hb1)
          refine bodyPost_ret (v := .bool true) (by simp [results, Try.results9, go_sem]) rfl ?_
          exact ⟨rfl, hw⟩
        | false =>
          have HLE : Hid (rs.length ≤ 35) := ((not_large HLV.out.symm).1 : rs.length ≤ 35)
          have hl35 := HLE.out
          have HRU := Lib.hid (HRU0.out rfl)
          have HNX : Hid (∀ q ∈ ps.take (j + 1), largeB X q.rules = false) := (by
            show ∀ q ∈ _, _
            rw [HTK.out]
            intro q hq
            rcases List.mem_append.1 hq with hq | hq
            · exact HNL.out q hq
            · rw [List.mem_singleton.1 hq]; exact HLV.out.symm : ∀ q ∈ ps.take (j + 1), largeB X q.rules = false)
          clear HNL HLV HRU0
          --T r14
          go_upto_region 14 with (first | (go_at_call 20; (with_reducible refine (HRU.out _ hw).mono ?_); rintro _ w2 ⟨A3, q3, l3, rfl, hpl, hown3, hrow3, hb2⟩; have HPQ := Lib.hid hpl; have HLQ3 : Hid (l3.length ≤ 1000000) := (by rw [len_pl hpl]; omega : l3.length ≤ 1000000); have HRQ := Lib.hid (rowP_of hown3 hrow3 HLQ3.out); have HO1 := Lib.hid (HPO.out.below hb2); have HB1 := Lib.hid (bl2 hw hb2); have HG1 := Lib.hid (ga.below hb2 ga.lt); have HT1 := Lib.hid (gt.below hb2 gt.lt); clear hpl hown3 hrow3 hb2) | (at_builtin; refine wpList_append_own _ rfl _ _ 49 rfl (w.heap.size + 2) 29 i0 (.slice none 0 0) 1 24 uPersons hi iz0 iz1 iz2 rfl (by decide) _ _ _ rfl (HO1.out.own.alloc _) ⟨w2.heap.size, 0, none⟩ 1 1 [.slice A3 l3.length q3] rfl rfl (cell_one_new _ _ _) (by simp [Value.oneCell']) (by unfold maxLen; omega) (by omega) (by have := HT1.out.lt; simp; omega) ?_; intro v' w5 hown2 hgrow _; refine Hid.out ?_; have HO2 : Hid (PsO w5 (w.heap.size + 2) v' (l' ++ [⟨A3, q3, l3⟩])) := (HO1.out.below ((Below.refl _ _).alloc (Nat.le_refl _) _)).append (HRQ.out.below ((Below.refl _ _).alloc (Nat.le_refl _) _)) hown2 hgrow; have HB2 : Hid (Below w.heap.size w w5) := (HB1.out.alloc HB1.out.size _).grown hgrow (by have := HB1.out.size; simp; omega) (fun g hg => by have := (HO1.out.own.lt g hg).1; omega); have HG2 : Hid (Blk w5 w.heap.size #[.slice A l.length c, .int .i64 e, .int .i64 b, .int .i64 u, .int .i64 d, .int .i64 p, .int .i64 f, .int .i64 m, .int .i64 y, .int .i64 s, .int .i64 k] 28) := (HG1.out.alloc _).grown hgrow (fun hg => by have := (HO1.out.own.lt _ hg.symm).1; omega); have HT2 : Hid (Blk w5 (w.heap.size + 1) #[.int .i64 fr, .int .i64 to_] 36) := (HT1.out.alloc _).grown hgrow (fun hg => by have := (HO1.out.own.lt _ hg.symm).1; omega); clear hown2 hgrow; refine Lib.hid ?_))
          have HPX : Hid ((l' ++ [(⟨A3, q3, l3⟩ : DPs)]).map DPs.pl = (ps.take (j + 1)).map DPs.pl) := (by
            rw [HTK.out, List.map_append, List.map_append, HPL.out]
            show _ ++ [l3.map DRl.pl] = _ ++ [rs.map DRl.pl]
            rw [HPQ.out] : (l' ++ [(⟨A3, q3, l3⟩ : DPs)]).map DPs.pl = (ps.take (j + 1)).map DPs.pl)
          clear HPO HPL HPQ HRQ HO1 HB1 HG1 HT1 HLQ3 HTK
          by_cases h0 : sW X ps j = 0
          · have HXA := Lib.hid (sW_x h0)
            have HS1 : Hid (sW X ps (j + 1) = chkE X.cycles rs) := (by rw [HSW.out, if_pos h0] : _ = _)
            have e0 : (sW X ps j == 0) = true := by simpa using h0
            rw [h0]
            have hw := HB2.out; have ga := HG2.out; have gt := HT2.out
            (have z0 := ga.cell 0; have z1 := ga.cell 1; have z2 := ga.cell 2; have z3 := ga.cell 3; have z4 := ga.cell 4; have z5 := ga.cell 5; have z6 := ga.cell 6; have z7 := ga.cell 7; have z8 := ga.cell 8; have z9 := ga.cell 9; have z10 := ga.cell 10; simp at z0 z1 z2 z3 z4 z5 z6 z7 z8 z9 z10; have u0 := gt.cell 0; have u1 := gt.cell 1; simp at u0 u1)
            have r0 := (hw.cell (p := ⟨rb, ro + j, none⟩) hrb).trans HR0.out
            have HRW := Lib.hid (fun W (hW : Below w5.heap.size w5 W) => HRF.out (by trivial) HXA.out (chkE X.cycles rs) rfl W (bl2 HB2.out hW))
            clear e0 h0 HSW HRF
            go_upto_region 15 with fail
            (refine wp_region_ext (by kernel_rfl) (by kernel_rfl) ?_; (repeat (go_big_quiet_step((go_at_call 51; with_reducible exact Calls.ext_of (HRW.out _ (ext_below ⟨_, rfl⟩)))))); with_reducible refine wpQuiet_nil ?_; intro w1 hw1; have hb1 := ext_below hw1; clear hw1)
            have HB3 := Lib.hid (bl2 HB2.out hb1); have HG3 := Lib.hid (HG2.out.below hb1 HG2.out.lt); have HT3 := Lib.hid (HT2.out.below hb1 HT2.out.lt); have HO3 := Lib.hid (HO2.out.below hb1)
            clear hw ga gt hb1
            (clear z0 z1 z2 z3 z4 z5 z6 z7 z8 z9 z10 u0 u1)
            go_wp2_with fail
            go_roundw
            case rel => exact ⟨j + 1, l' ++ [⟨A3, q3, l3⟩], by omega, by go_num, by rw [HS1.out], HO3, HPX, HNX, HB3, HG3, HT3⟩
            case measure => simp [intOf]; omega
          · have HS1 : Hid (sW X ps (j + 1) = sW X ps j) := (by rw [HSW.out, if_neg h0] : _ = _)
            have e0 : (sW X ps j == 0) = false := by simpa using h0
            clear h0 HSW HRF
            go_wp2_with fail
            go_roundw
            case rel => exact ⟨j + 1, l' ++ [⟨A3, q3, l3⟩], by omega, by go_num, by rw [HS1.out], HO2, HPX, HNX, HB2, HG2, HT2⟩
            case measure => simp [intOf]; omega
        --D>
      · --D<end
        obtain rfl : j = ps.length := by omega
        have HNA : Hid (∀ q ∈ ps, largeB X q.rules = false) := (by have h := HNL.out; rw [List.take_length] at h; exact h : ∀ q ∈ ps, largeB X q.rules = false)
        have HPA : Hid (l'.map DPs.pl = ps.map DPs.pl) := (by have h := HPL.out; rw [List.take_length] at h; exact h : l'.map DPs.pl = ps.map DPs.pl)
        rw [sW_all]
        clear HPL HNL HLG2 hlt HRR2 HRL
        --T r16
        by_cases hlx : 10 < l.length
        · have d1 : decide ((10 : Int) < (l.length : Int)) = true := decide_eq_true (by omega)
          go_wp2_with (go_at_call 17; refine (known_any _).mono ?_; rintro _ V1 ⟨rfl, hb1⟩; have hw := bl2 hw hb1)
          refine bodyPost_ret (v := .bool true) (by simp [results, Try.results9, go_sem]) rfl ?_
          exact ⟨rfl, hw⟩
        · have d1 : decide ((10 : Int) < (l.length : Int)) = false := decide_eq_false (by omega)
          have hlx2 : l.length ≤ 1000000 := by omega
          have HOW := Lib.hid (HOW.out hlx2)
          have HLX := Lib.hid hlx2
          clear hlx
          --T r18
          obtain ⟨A3, c3, hv⟩ := own_slice HPO.out.own
          subst hv
          have hlq : l'.length ≤ 1000000 := by have := pl_len HPA.out; omega
          obtain ⟨ce, hce⟩ : ∃ z, z = comE X ps := ⟨_, rfl⟩
          rw [← hce]
          have HCE := Lib.hid hce
          clear hce hj
          by_cases hc0 : ce = 0
          · have hz0 : comE X ps = 0 := HCE.out.symm.trans hc0
            have HZ0 := Lib.hid hz0
            subst hc0
            clear hz0 HCE
            cases hsp : spanB fr to_ with
            | false =>
              --D<b
              have HSP := Lib.hid (fun W => rspan_val hsp W)
              have h := HCR.out
              unfold comR at h
              rw [if_pos HZ0.out, hsp] at h
              simp only [Bool.false_eq_true, if_false, Prod.mk.injEq] at h
              obtain ⟨rfl, rfl⟩ := h
              clear hsp
              go_upto_region 20 with (go_at_call 22; refine (HSP.out _).mono ?_; rintro _ V3 ⟨rfl, hb1⟩; have HPO := Lib.hid (HPO.out.below hb1); have hw := bl2 hw hb1; have ga := ga.below hb1 ga.lt; have gt := gt.below hb1 gt.lt; (have z0 := ga.cell 0; have z1 := ga.cell 1; have z2 := ga.cell 2; have z3 := ga.cell 3; have z4 := ga.cell 4; have z5 := ga.cell 5; have z6 := ga.cell 6; have z7 := ga.cell 7; have z8 := ga.cell 8; have z9 := ga.cell 9; have z10 := ga.cell 10; simp at z0 z1 z2 z3 z4 z5 z6 z7 z8 z9 z10; have u0 := gt.cell 0; have u1 := gt.cell 1; simp at u0 u1))
              clear hb1
              have HCM := Lib.hid (fun A' c' W (hs : Sl Cyc.cells 2 W W.heap.size A' X.cycles) (hW : Below V3.heap.size V3 W) => commonV HCR.out (by rw [HXX.out]; exact HLX.out) A' c' A3 c3 l'.length l' W hs ((HPO.out.below hW).psA hlq) HPA.out rfl)
              rw [HXX.out] at HCM
              simp only [Alm.cells] at HCM
              rename World => w0
              go_cut [10, 11] (fun a b wx => a = .int .i64 0 ∧ b = .int .i64 3 ∧ Below w0.heap.size w0 wx)
              case first =>
                as_aux_lemma =>
                  go_region_held3 (fun W' => W'.cell? ⟨w.heap.size, 0, none⟩ = some (.slice A l.length c) ∧ W'.cell? ⟨w.heap.size, 1, none⟩ = some (.int .i64 e) ∧ W'.cell? ⟨w.heap.size, 2, none⟩ = some (.int .i64 b) ∧ W'.cell? ⟨w.heap.size, 3, none⟩ = some (.int .i64 u) ∧ W'.cell? ⟨w.heap.size, 4, none⟩ = some (.int .i64 d) ∧ W'.cell? ⟨w.heap.size, 5, none⟩ = some (.int .i64 p) ∧ W'.cell? ⟨w.heap.size, 6, none⟩ = some (.int .i64 f) ∧ W'.cell? ⟨w.heap.size, 7, none⟩ = some (.int .i64 m) ∧ W'.cell? ⟨w.heap.size, 8, none⟩ = some (.int .i64 y) ∧ W'.cell? ⟨w.heap.size, 9, none⟩ = some (.int .i64 s) ∧ W'.cell? ⟨w.heap.size, 10, none⟩ = some (.int .i64 k) ∧ W'.cell? ⟨w.heap.size + 1, 0, none⟩ = some (.int .i64 fr) ∧ W'.cell? ⟨w.heap.size + 1, 1, none⟩ = some (.int .i64 to_)) (first | exact ⟨z0, z1, z2, z3, z4, z5, z6, z7, z8, z9, z10, u0, u1⟩ | go_keep) (first | (go_at_call 52; (with_reducible refine (HCM.out _ _ _ hs1 hy1).mono ?_); rintro _ w3 ⟨rfl, hb3⟩; have hy3 : Below w0.heap.size w0 w3 := bl2 hy1 hb3; have ga3 := ga.below hy3 ga.lt; have gt3 := gt.below hy3 gt.lt; (have z0 := ga3.cell 0; have z1 := ga3.cell 1; have z2 := ga3.cell 2; have z3 := ga3.cell 3; have z4 := ga3.cell 4; have z5 := ga3.cell 5; have z6 := ga3.cell 6; have z7 := ga3.cell 7; have z8 := ga3.cell 8; have z9 := ga3.cell 9; have z10 := ga3.cell 10; simp at z0 z1 z2 z3 z4 z5 z6 z7 z8 z9 z10; have u0 := gt3.cell 0; have u1 := gt3.cell 1; simp at u0 u1)) | (go_at_call 19; (with_reducible refine (HOW.out _ (bl2 hw (by (repeat (first | exact Below.refl _ _ | assumption | (refine Below.alloc ?_ (by first | omega | (simp; omega) | (simp; done)) _) | (refine Below.setCell ?_ (by first | omega | (simp; omega) | (simp; done)) _) | (refine Below.drew ?_) | (refine belowN ?_ _) | (refine Below.trans ?_ (Below.mono ‹Below _ _ _› (by first | omega | (simp; omega) | (simp; done))))))))).mono ?_); rintro _ w1 ⟨A1, q1, rfl, hs1, -, hb1, -⟩; have hy1 : Below w0.heap.size w0 w1 := Below.trans (by (repeat (first | exact Below.refl _ _ | assumption | (refine Below.alloc ?_ (by first | omega | (simp; omega) | (simp; done)) _) | (refine Below.setCell ?_ (by first | omega | (simp; omega) | (simp; done)) _) | (refine Below.drew ?_) | (refine belowN ?_ _) | (refine Below.trans ?_ (Below.mono ‹Below _ _ _› (by first | omega | (simp; omega) | (simp; done))))))) (hb1.mono (by simp)); have ga1 := ga.below hy1 ga.lt; have gt1 := gt.below hy1 gt.lt; (have z0 := ga1.cell 0; have z1 := ga1.cell 1; have z2 := ga1.cell 2; have z3 := ga1.cell 3; have z4 := ga1.cell 4; have z5 := ga1.cell 5; have z6 := ga1.cell 6; have z7 := ga1.cell 7; have z8 := ga1.cell 8; have z9 := ga1.cell 9; have z10 := ga1.cell 10; simp at z0 z1 z2 z3 z4 z5 z6 z7 z8 z9 z10; have u0 := gt1.cell 0; have u1 := gt1.cell 1; simp at u0 u1)))
                  all_goals (
                    go_wp2_with fail
                    go_meet
                    exact ⟨rfl, rfl, hy3⟩)
              case rest =>
                obtain ⟨rfl, rfl, hcx⟩ := hcut
                rename World => W5
                have ga5 := ga.below hcx ga.lt
                have gt5 := gt.below hcx gt.lt
                have hw5 := bl2 hw hcx
                clear hcx ga gt hw
                (clear z0 z1 z2 z3 z4 z5 z6 z7 z8 z9 z10 u0 u1)
                have ga := ga5
                have gt := gt5
                have hw := hw5
                clear ga5 gt5 hw5
                (have z0 := ga.cell 0; have z1 := ga.cell 1; have z2 := ga.cell 2; have z3 := ga.cell 3; have z4 := ga.cell 4; have z5 := ga.cell 5; have z6 := ga.cell 6; have z7 := ga.cell 7; have z8 := ga.cell 8; have z9 := ga.cell 9; have z10 := ga.cell 10; simp at z0 z1 z2 z3 z4 z5 z6 z7 z8 z9 z10; have u0 := gt.cell 0; have u1 := gt.cell 1; simp at u0 u1)
                clear HCM
                go_wp2_with (go_at_call 17; refine (known_any _).mono ?_; rintro _ V1 ⟨rfl, hb1⟩; have hw := bl2 hw hb1)
                refine bodyPost_ret (v := .bool true) (by simp [results, Try.results9, go_sem]) rfl ?_
                exact ⟨rfl, hw⟩
              --D>
            | true =>
              --D<c
              have HSP := Lib.hid (fun W => rspan_val hsp W)
              obtain ⟨hx, h10, hch⟩ := comE_zero HZ0.out
              have HDY := Lib.hid (HDY2.out hx hsp (fun q hq r hr => chkE_bad (hch q hq) r hr) HNA.out)
              have h := HCR.out
              unfold comR at h
              rw [if_pos HZ0.out, hsp] at h
              simp only [if_true] at h
              obtain ⟨L, hL⟩ : ∃ L, L = daysL X ps fr to_ := ⟨_, rfl⟩
              rw [← hL] at h HDY
              have HFR := Lib.hid h
              clear hsp hx h10 hch h hL HDY2
              --T c20
              go_upto_region 20 with (go_at_call 22; refine (HSP.out _).mono ?_; rintro _ V3 ⟨rfl, hb1⟩; have HPO := Lib.hid (HPO.out.below hb1); have hw := bl2 hw hb1; have ga := ga.below hb1 ga.lt; have gt := gt.below hb1 gt.lt; (have z0 := ga.cell 0; have z1 := ga.cell 1; have z2 := ga.cell 2; have z3 := ga.cell 3; have z4 := ga.cell 4; have z5 := ga.cell 5; have z6 := ga.cell 6; have z7 := ga.cell 7; have z8 := ga.cell 8; have z9 := ga.cell 9; have z10 := ga.cell 10; simp at z0 z1 z2 z3 z4 z5 z6 z7 z8 z9 z10; have u0 := gt.cell 0; have u1 := gt.cell 1; simp at u0 u1))
              clear hb1
              have HCM := Lib.hid (fun A' c' W (hs : Sl Cyc.cells 2 W W.heap.size A' X.cycles) (hW : Below V3.heap.size V3 W) => commonV HCR.out (by rw [HXX.out]; exact HLX.out) A' c' A3 c3 l'.length l' W hs ((HPO.out.below hW).psA hlq) HPA.out rfl)
              rw [HXX.out] at HCM
              simp only [Alm.cells] at HCM
              rename World => w0
              go_cut [10, 11] (fun a b wx => a = .int .i64 n ∧ b = .int .i64 E ∧ Below w0.heap.size w0 wx)
              case first =>
                as_aux_lemma =>
                  go_region_held3 (fun W' => W'.cell? ⟨w.heap.size, 0, none⟩ = some (.slice A l.length c) ∧ W'.cell? ⟨w.heap.size, 1, none⟩ = some (.int .i64 e) ∧ W'.cell? ⟨w.heap.size, 2, none⟩ = some (.int .i64 b) ∧ W'.cell? ⟨w.heap.size, 3, none⟩ = some (.int .i64 u) ∧ W'.cell? ⟨w.heap.size, 4, none⟩ = some (.int .i64 d) ∧ W'.cell? ⟨w.heap.size, 5, none⟩ = some (.int .i64 p) ∧ W'.cell? ⟨w.heap.size, 6, none⟩ = some (.int .i64 f) ∧ W'.cell? ⟨w.heap.size, 7, none⟩ = some (.int .i64 m) ∧ W'.cell? ⟨w.heap.size, 8, none⟩ = some (.int .i64 y) ∧ W'.cell? ⟨w.heap.size, 9, none⟩ = some (.int .i64 s) ∧ W'.cell? ⟨w.heap.size, 10, none⟩ = some (.int .i64 k) ∧ W'.cell? ⟨w.heap.size + 1, 0, none⟩ = some (.int .i64 fr) ∧ W'.cell? ⟨w.heap.size + 1, 1, none⟩ = some (.int .i64 to_)) (first | exact ⟨z0, z1, z2, z3, z4, z5, z6, z7, z8, z9, z10, u0, u1⟩ | go_keep) (first | (go_at_call 52; (with_reducible refine (HCM.out _ _ _ hs1 hy1).mono ?_); rintro _ w3 ⟨rfl, hb3⟩; have hy3 : Below w0.heap.size w0 w3 := bl2 hy1 hb3; have ga3 := ga.below hy3 ga.lt; have gt3 := gt.below hy3 gt.lt; (have z0 := ga3.cell 0; have z1 := ga3.cell 1; have z2 := ga3.cell 2; have z3 := ga3.cell 3; have z4 := ga3.cell 4; have z5 := ga3.cell 5; have z6 := ga3.cell 6; have z7 := ga3.cell 7; have z8 := ga3.cell 8; have z9 := ga3.cell 9; have z10 := ga3.cell 10; simp at z0 z1 z2 z3 z4 z5 z6 z7 z8 z9 z10; have u0 := gt3.cell 0; have u1 := gt3.cell 1; simp at u0 u1)) | (go_at_call 19; (with_reducible refine (HOW.out _ (bl2 hw (by (repeat (first | exact Below.refl _ _ | assumption | (refine Below.alloc ?_ (by first | omega | (simp; omega) | (simp; done)) _) | (refine Below.setCell ?_ (by first | omega | (simp; omega) | (simp; done)) _) | (refine Below.drew ?_) | (refine belowN ?_ _) | (refine Below.trans ?_ (Below.mono ‹Below _ _ _› (by first | omega | (simp; omega) | (simp; done))))))))).mono ?_); rintro _ w1 ⟨A1, q1, rfl, hs1, -, hb1, -⟩; have hy1 : Below w0.heap.size w0 w1 := Below.trans (by (repeat (first | exact Below.refl _ _ | assumption | (refine Below.alloc ?_ (by first | omega | (simp; omega) | (simp; done)) _) | (refine Below.setCell ?_ (by first | omega | (simp; omega) | (simp; done)) _) | (refine Below.drew ?_) | (refine belowN ?_ _) | (refine Below.trans ?_ (Below.mono ‹Below _ _ _› (by first | omega | (simp; omega) | (simp; done))))))) (hb1.mono (by simp)); have ga1 := ga.below hy1 ga.lt; have gt1 := gt.below hy1 gt.lt; (have z0 := ga1.cell 0; have z1 := ga1.cell 1; have z2 := ga1.cell 2; have z3 := ga1.cell 3; have z4 := ga1.cell 4; have z5 := ga1.cell 5; have z6 := ga1.cell 6; have z7 := ga1.cell 7; have z8 := ga1.cell 8; have z9 := ga1.cell 9; have z10 := ga1.cell 10; simp at z0 z1 z2 z3 z4 z5 z6 z7 z8 z9 z10; have u0 := gt1.cell 0; have u1 := gt1.cell 1; simp at u0 u1)))
                  all_goals (
                    go_wp2_with fail
                    go_meet
                    exact ⟨rfl, rfl, hy3⟩)
              case rest =>
                obtain ⟨rfl, rfl, hcx⟩ := hcut
                rename World => W5
                have ga5 := ga.below hcx ga.lt
                have gt5 := gt.below hcx gt.lt
                have hw5 := bl2 hw hcx
                clear hcx ga gt hw
                (clear z0 z1 z2 z3 z4 z5 z6 z7 z8 z9 z10 u0 u1)
                have ga := ga5
                have gt := gt5
                have hw := hw5
                clear ga5 gt5 hw5
                (have z0 := ga.cell 0; have z1 := ga.cell 1; have z2 := ga.cell 2; have z3 := ga.cell 3; have z4 := ga.cell 4; have z5 := ga.cell 5; have z6 := ga.cell 6; have z7 := ga.cell 7; have z8 := ga.cell 8; have z9 := ga.cell 9; have z10 := ga.cell 10; simp at z0 z1 z2 z3 z4 z5 z6 z7 z8 z9 z10; have u0 := gt.cell 0; have u1 := gt.cell 1; simp at u0 u1)
                clear HCM
                --T c23
                have h := HFR.out
                cases L with
                | nil =>
                  simp only [firstR, Prod.mk.injEq] at h
                  obtain ⟨rfl, rfl⟩ := h
                  go_wp2_with (first | (go_at_call 24; (with_reducible refine (HDY.out _ hw).mono ?_); rintro _ V4 ⟨A4, c4, rfl, hs4, -, hb1⟩; have HS4 := Lib.hid hs4; have hw := bl2 hw hb1; have ga := ga.below hb1 ga.lt; have gt := gt.below hb1 gt.lt; (have z0 := ga.cell 0; have z1 := ga.cell 1; have z2 := ga.cell 2; have z3 := ga.cell 3; have z4 := ga.cell 4; have z5 := ga.cell 5; have z6 := ga.cell 6; have z7 := ga.cell 7; have z8 := ga.cell 8; have z9 := ga.cell 9; have z10 := ga.cell 10; simp at z0 z1 z2 z3 z4 z5 z6 z7 z8 z9 z10; have u0 := gt.cell 0; have u1 := gt.cell 1; simp at u0 u1); clear hs4 hb1) | (go_at_call 17; refine (known_any _).mono ?_; rintro _ V1 ⟨rfl, hb1⟩; have hw := bl2 hw hb1))
                  refine bodyPost_ret (v := .bool true) (by simp [results, Try.results9, go_sem]) rfl ?_
                  exact ⟨rfl, hw⟩
                | cons dd LL =>
                  simp only [firstR, Prod.mk.injEq] at h
                  obtain ⟨rfl, rfl⟩ := h
                  obtain ⟨N, hN⟩ : ∃ N, N = (dd :: LL).length := ⟨_, rfl⟩
                  rw [← hN] at HDY
                  have hN1 : 0 < N := by rw [hN]; simp
                  have e6 : ((N : Int) == 0) = false := beq_eq_false_iff_ne.2 (by omega)
                  have hk0 : (0 : Int) < (N : Int) := by omega
                  clear hN
                  go_upto_region 24 with (go_at_call 24; (with_reducible refine (HDY.out _ hw).mono ?_); rintro _ V4 ⟨A4, c4, rfl, hs4, -, hb1⟩; have HS4 := Lib.hid hs4; have hw := bl2 hw hb1; have ga := ga.below hb1 ga.lt; have gt := gt.below hb1 gt.lt; (have z0 := ga.cell 0; have z1 := ga.cell 1; have z2 := ga.cell 2; have z3 := ga.cell 3; have z4 := ga.cell 4; have z5 := ga.cell 5; have z6 := ga.cell 6; have z7 := ga.cell 7; have z8 := ga.cell 8; have z9 := ga.cell 9; have z10 := ga.cell 10; simp at z0 z1 z2 z3 z4 z5 z6 z7 z8 z9 z10; have u0 := gt.cell 0; have u1 := gt.cell 1; simp at u0 u1); clear hs4 hb1)
                  obtain ⟨ab, ao, rfl, hab, cd⟩ := HS4.out.int_at (k := 0) (by simp)
                  have cd0 : V4.cell? ⟨ab, ao, none⟩ = some (.int .i64 dd) := by simpa using cd
                  clear cd
                  go_wp2_with (go_at_call 17; refine (known_any _).mono ?_; rintro _ V1 ⟨rfl, hb1⟩; have hw := bl2 hw hb1)
                  refine bodyPost_ret (v := .bool true) (by simp [results, Try.results9, go_sem]) rfl ?_
                  exact ⟨rfl, hw⟩
              --D>
          · --D<a
            have h := HCR.out
            unfold comR at h
            rw [if_neg (by rw [← HCE.out]; exact hc0), ← HCE.out] at h
            simp only [Prod.mk.injEq] at h
            obtain ⟨rfl, rfl⟩ := h
            have e7 : (ce == 0) = false := by simpa using hc0
            have e8 : (ce != 0) = true := by simpa using hc0
            clear hc0
            go_upto_region 20 with fail
            have HCM := Lib.hid (fun A' c' W (hs : Sl Cyc.cells 2 W W.heap.size A' X.cycles) (hW : Below wr.heap.size wr W) => commonV HCR.out (by rw [HXX.out]; exact HLX.out) A' c' A3 c3 l'.length l' W hs ((HPO.out.below hW).psA hlq) HPA.out rfl)
            rw [HXX.out] at HCM
            simp only [Alm.cells] at HCM
            rename World => w0
            go_cut [10, 11] (fun a b wx => a = .int .i64 0 ∧ b = .int .i64 ce ∧ Below w0.heap.size w0 wx)
            case first =>
              as_aux_lemma =>
                go_region_held3 (fun W' => W'.cell? ⟨w.heap.size, 0, none⟩ = some (.slice A l.length c) ∧ W'.cell? ⟨w.heap.size, 1, none⟩ = some (.int .i64 e) ∧ W'.cell? ⟨w.heap.size, 2, none⟩ = some (.int .i64 b) ∧ W'.cell? ⟨w.heap.size, 3, none⟩ = some (.int .i64 u) ∧ W'.cell? ⟨w.heap.size, 4, none⟩ = some (.int .i64 d) ∧ W'.cell? ⟨w.heap.size, 5, none⟩ = some (.int .i64 p) ∧ W'.cell? ⟨w.heap.size, 6, none⟩ = some (.int .i64 f) ∧ W'.cell? ⟨w.heap.size, 7, none⟩ = some (.int .i64 m) ∧ W'.cell? ⟨w.heap.size, 8, none⟩ = some (.int .i64 y) ∧ W'.cell? ⟨w.heap.size, 9, none⟩ = some (.int .i64 s) ∧ W'.cell? ⟨w.heap.size, 10, none⟩ = some (.int .i64 k) ∧ W'.cell? ⟨w.heap.size + 1, 0, none⟩ = some (.int .i64 fr) ∧ W'.cell? ⟨w.heap.size + 1, 1, none⟩ = some (.int .i64 to_)) (first | exact ⟨z0, z1, z2, z3, z4, z5, z6, z7, z8, z9, z10, u0, u1⟩ | go_keep) (first | (go_at_call 52; (with_reducible refine (HCM.out _ _ _ hs1 hy1).mono ?_); rintro _ w3 ⟨rfl, hb3⟩; have hy3 : Below w0.heap.size w0 w3 := bl2 hy1 hb3; have ga3 := ga.below hy3 ga.lt; have gt3 := gt.below hy3 gt.lt; (have z0 := ga3.cell 0; have z1 := ga3.cell 1; have z2 := ga3.cell 2; have z3 := ga3.cell 3; have z4 := ga3.cell 4; have z5 := ga3.cell 5; have z6 := ga3.cell 6; have z7 := ga3.cell 7; have z8 := ga3.cell 8; have z9 := ga3.cell 9; have z10 := ga3.cell 10; simp at z0 z1 z2 z3 z4 z5 z6 z7 z8 z9 z10; have u0 := gt3.cell 0; have u1 := gt3.cell 1; simp at u0 u1)) | (go_at_call 19; (with_reducible refine (HOW.out _ (bl2 hw (by (repeat (first | exact Below.refl _ _ | assumption | (refine Below.alloc ?_ (by first | omega | (simp; omega) | (simp; done)) _) | (refine Below.setCell ?_ (by first | omega | (simp; omega) | (simp; done)) _) | (refine Below.drew ?_) | (refine belowN ?_ _) | (refine Below.trans ?_ (Below.mono ‹Below _ _ _› (by first | omega | (simp; omega) | (simp; done))))))))).mono ?_); rintro _ w1 ⟨A1, q1, rfl, hs1, -, hb1, -⟩; have hy1 : Below w0.heap.size w0 w1 := Below.trans (by (repeat (first | exact Below.refl _ _ | assumption | (refine Below.alloc ?_ (by first | omega | (simp; omega) | (simp; done)) _) | (refine Below.setCell ?_ (by first | omega | (simp; omega) | (simp; done)) _) | (refine Below.drew ?_) | (refine belowN ?_ _) | (refine Below.trans ?_ (Below.mono ‹Below _ _ _› (by first | omega | (simp; omega) | (simp; done))))))) (hb1.mono (by simp)); have ga1 := ga.below hy1 ga.lt; have gt1 := gt.below hy1 gt.lt; (have z0 := ga1.cell 0; have z1 := ga1.cell 1; have z2 := ga1.cell 2; have z3 := ga1.cell 3; have z4 := ga1.cell 4; have z5 := ga1.cell 5; have z6 := ga1.cell 6; have z7 := ga1.cell 7; have z8 := ga1.cell 8; have z9 := ga1.cell 9; have z10 := ga1.cell 10; simp at z0 z1 z2 z3 z4 z5 z6 z7 z8 z9 z10; have u0 := gt1.cell 0; have u1 := gt1.cell 1; simp at u0 u1)))
                all_goals (
                  go_wp2_with fail
                  go_meet
                  exact ⟨rfl, rfl, hy3⟩)
            case rest =>
              obtain ⟨rfl, rfl, hcx⟩ := hcut
              rename World => W5
              have ga5 := ga.below hcx ga.lt
              have gt5 := gt.below hcx gt.lt
              have hw5 := bl2 hw hcx
              clear hcx ga gt hw
              (clear z0 z1 z2 z3 z4 z5 z6 z7 z8 z9 z10 u0 u1)
              have ga := ga5
              have gt := gt5
              have hw := hw5
              clear ga5 gt5 hw5
              (have z0 := ga.cell 0; have z1 := ga.cell 1; have z2 := ga.cell 2; have z3 := ga.cell 3; have z4 := ga.cell 4; have z5 := ga.cell 5; have z6 := ga.cell 6; have z7 := ga.cell 7; have z8 := ga.cell 8; have z9 := ga.cell 9; have z10 := ga.cell 10; simp at z0 z1 z2 z3 z4 z5 z6 z7 z8 z9 z10; have u0 := gt.cell 0; have u1 := gt.cell 1; simp at u0 u1)
              clear HCM
              go_wp2_with (go_at_call 17; refine (known_any _).mono ?_; rintro _ V1 ⟨rfl, hb1⟩; have hw := bl2 hw hb1)
              refine bodyPost_ret (v := .bool true) (by simp [results, Try.results9, go_sem]) rfl ?_
              exact ⟨rfl, hw⟩
            --D>
        --D>
set_option maxRecDepth 100000 in
set_option maxHeartbeats 4000000 in
theorem lwsuits_w (x : Alm) (A2 : Option Addr) (c2 : Nat) (ps : List DPs) (fr to_ : Int) (w : World) (hz : x.a = none → x.c = 0) (hlm : x.cycles.length ≤ 9223372036854775807) (hcx : Sl Cyc.cells 2 w w.heap.size x.a x.cycles) (hr : PsW w w.heap.size A2 ps) :
    Calls Try.prog 9 #[.agg x.cells.toArray, .slice A2 ps.length c2, .agg #[.int .i64 fr, .int .i64 to_]] w fun en w' => en = .returned (.bool true) ∧ Below w.heap.size w w' := by
  by_cases h9 : ps.length ≤ 15
  · cases hlo : lngB fr to_ with
    | false => exact lwsuits_any x A2 c2 ps fr to_ w hz hlm hcx hr h9 hlo
    | true =>
      have q2 : decide ((15 : Int) < (ps.length : Int)) = false := by simp; omega
      have HLO := Lib.hid (fun W => llong_val hlo W)
      clear hz hcx hr h9 hlm hlo
      obtain ⟨A, c, l, ⟨e, b, u⟩, ⟨d, p, f, m, y, s, k⟩⟩ := x
      simp only [Alm.cells]
      go_enter Try.func9, Try.ntmps9
      go_upto_region 1 with fail
      refine gen_w (fun W => Blk W w.heap.size #[.slice A l.length c, .int .i64 e, .int .i64 b, .int .i64 u, .int .i64 d, .int .i64 p, .int .i64 f, .int .i64 m, .int .i64 y, .int .i64 s, .int .i64 k] 28 ∧ Blk W (w.heap.size + 1) #[.int .i64 fr, .int .i64 to_] 36 ∧ Below w.heap.size w W) ⟨(Blk.at_ rfl).alloc _, Blk.at_ (by simp), by (repeat (first | exact Below.refl _ _ | assumption | (refine Below.alloc ?_ (by first | omega | (simp; omega) | (simp; done)) _) | (refine Below.setCell ?_ (by first | omega | (simp; omega) | (simp; done)) _) | (refine Below.drew ?_) | (refine belowN ?_ _) | (refine Below.trans ?_ (Below.mono ‹Below _ _ _› (by first | omega | (simp; omega) | (simp; done))))))⟩ ?_
      rintro V0 ⟨ga, gt, hw⟩
      (have z0 := ga.cell 0; have z1 := ga.cell 1; have z2 := ga.cell 2; have z3 := ga.cell 3; have z4 := ga.cell 4; have z5 := ga.cell 5; have z6 := ga.cell 6; have z7 := ga.cell 7; have z8 := ga.cell 8; have z9 := ga.cell 9; have z10 := ga.cell 10; simp at z0 z1 z2 z3 z4 z5 z6 z7 z8 z9 z10; have u0 := gt.cell 0; have u1 := gt.cell 1; simp at u0 u1)
      go_wp2_with (first | (go_at_call 16; refine (HLO.out _).mono ?_; rintro _ V1 ⟨rfl, hb1⟩; have hw := bl2 hw hb1; have ga := ga.below hb1 ga.lt; have gt := gt.below hb1 gt.lt; (have z0 := ga.cell 0; have z1 := ga.cell 1; have z2 := ga.cell 2; have z3 := ga.cell 3; have z4 := ga.cell 4; have z5 := ga.cell 5; have z6 := ga.cell 6; have z7 := ga.cell 7; have z8 := ga.cell 8; have z9 := ga.cell 9; have z10 := ga.cell 10; simp at z0 z1 z2 z3 z4 z5 z6 z7 z8 z9 z10; have u0 := gt.cell 0; have u1 := gt.cell 1; simp at u0 u1)) | (go_at_call 17; refine (known_any _).mono ?_; rintro _ V1 ⟨rfl, hb1⟩; have hw := bl2 hw hb1))
      refine bodyPost_ret (v := .bool true) (by simp [results, Try.results9, go_sem]) rfl ?_
      exact ⟨rfl, hw⟩
  · have q2 : decide ((15 : Int) < (ps.length : Int)) = true := by simp; omega
    clear hz hcx hr h9 hlm
    obtain ⟨A, c, l, ⟨e, b, u⟩, ⟨d, p, f, m, y, s, k⟩⟩ := x
    simp only [Alm.cells]
    go_enter Try.func9, Try.ntmps9
    go_upto_region 1 with fail
    refine gen_w (fun W => Blk W w.heap.size #[.slice A l.length c, .int .i64 e, .int .i64 b, .int .i64 u, .int .i64 d, .int .i64 p, .int .i64 f, .int .i64 m, .int .i64 y, .int .i64 s, .int .i64 k] 28 ∧ Blk W (w.heap.size + 1) #[.int .i64 fr, .int .i64 to_] 36 ∧ Below w.heap.size w W) ⟨(Blk.at_ rfl).alloc _, Blk.at_ (by simp), by (repeat (first | exact Below.refl _ _ | assumption | (refine Below.alloc ?_ (by first | omega | (simp; omega) | (simp; done)) _) | (refine Below.setCell ?_ (by first | omega | (simp; omega) | (simp; done)) _) | (refine Below.drew ?_) | (refine belowN ?_ _) | (refine Below.trans ?_ (Below.mono ‹Below _ _ _› (by first | omega | (simp; omega) | (simp; done))))))⟩ ?_
    rintro V0 ⟨ga, gt, hw⟩
    (have z0 := ga.cell 0; have z1 := ga.cell 1; have z2 := ga.cell 2; have z3 := ga.cell 3; have z4 := ga.cell 4; have z5 := ga.cell 5; have z6 := ga.cell 6; have z7 := ga.cell 7; have z8 := ga.cell 8; have z9 := ga.cell 9; have z10 := ga.cell 10; simp at z0 z1 z2 z3 z4 z5 z6 z7 z8 z9 z10; have u0 := gt.cell 0; have u1 := gt.cell 1; simp at u0 u1)
    go_wp2_with (go_at_call 17; refine (known_any _).mono ?_; rintro _ V1 ⟨rfl, hb1⟩; have hw := bl2 hw hb1)
    refine bodyPost_ret (v := .bool true) (by simp [results, Try.results9, go_sem]) rfl ?_
    exact ⟨rfl, hw⟩
end Go.Proofs.Ytfbnllmmoaialaa

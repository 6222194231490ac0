/- almanac: the law AlmanacNext, where they are not. -/
import Derived.Test.YtfbnllmmoaialaaZ30LkM
namespace Go.Proofs.Ytfbnllmmoaialaa
open Go.RowKit

set_option maxRecDepth 100000 in
set_option maxHeartbeats 16000000 in
theorem lwnext_0 (x : Alm) (A2 : Option Addr) (c2 : Nat) (rs : List DRl) (fr to_ : Int) (w : World) (hz : x.a = none → x.c = 0) (hcx : Sl Cyc.cells 2 w w.heap.size x.a x.cycles) (hr : RlsIn w A2 rs) (hlg : largeB x rs = false) (h29 : rs.length ≤ 29) (f0 : 0 ≤ fr) (f1 : to_ ≤ 1000000) (f2 : fr ≤ to_) (f3 : to_ - fr ≤ 100) (hb : bothE x rs = 0) :
    Calls Try.prog 10 #[.agg x.cells.toArray, .slice A2 rs.length c2, .agg #[.int .i64 fr, .int .i64 to_]] w fun en w' => en = .returned (.bool true) ∧ Below w.heap.size w w' := by
  have HLG := Lib.hid (fun W (hW : Below w.heap.size w W) => large_any x A2 c2 rs W ((hr.w.below hW).more hW.size))
  rw [hlg] at HLG
  obtain ⟨hl35, hlx, -⟩ := not_large hlg
  have hlx2 : x.cycles.length ≤ 1000000 := by omega
  have HOW := Lib.hid (fun W (hW : Below w.heap.size w W) => own_any x W hz (by omega) ((hcx.below hW).more hW.size))
  have HOF := Lib.hid (fun W (hW : Below w.heap.size w W) => ownF_any x W hz (by omega) ((hcx.below hW).more hW.size))
  have HRU := Lib.hid (fun W (hW : Below w.heap.size w W) => rules_any A2 c2 rs W ((hr.at_.below hW).more hW.size) hr.nil (by omega))
  have q1 : decide ((29 : Int) < (rs.length : Int)) = false := by simp; omega
  have q2 : decide (fr < 0) = false := by simp; omega
  have q3 : decide (1000000 < to_) = false := by simp; omega
  have q4 : decide (to_ < fr) = false := by simp; omega
  have q5 : IntKind.i64.wrap (to_ - fr) = to_ - fr := IntWalk.i64_in _ ⟨by omega, by omega⟩
  have q6 : decide (100 < to_ - fr) = false := by simp; omega
  have hsp : spanB fr to_ = true := spanB_iff.2 ⟨by omega, by omega, by omega, by omega⟩
  obtain ⟨hn, hc⟩ := nextR_ok hb hsp
  have HAL0 := Lib.hid (fun day (hd : inB day 0 1000000 = true) A c A3 k3 l' W h1 h2 h3 => allowedV (show allowedR x rs day = (allowB x rs day, decI x rs day, 0) by unfold allowedR; rw [if_pos hb, hd]; rfl) hlx2 A c A3 k3 l' W h1 h2 h3)
  have HALB : Hid (∀ day, allowB x rs day = (decide (0 ≤ decI x rs day) && (match rs[(decI x rs day).toNat]? with | some r => r.allow | none => false))) := (fun day => rfl : ∀ day, allowB x rs day = _)
  have HDBD := Lib.hid (fun day => decI_bd x rs day)
  have HSUC := Lib.hid (daysN_one x rs fr)
  have HRLA := Lib.hid hr.at_
  have hneg := firstI_neg (x := x) (rs := rs) (a := fr) (b := to_) f0
  obtain ⟨⟨nn, ne⟩, hnn⟩ : ∃ z, firstR (spanL x rs fr to_) = z := ⟨_, rfl⟩
  rw [hnn] at hn hneg
  obtain ⟨L, hL⟩ : ∃ L, L = spanL x rs fr to_ := ⟨_, rfl⟩
  rw [← hL] at hc hneg
  have HNX := Lib.hid (fun A c A3 k3 l' W h1 h2 h3 => nextV hn hlx2 A c A3 k3 l' W h1 h2 h3)
  have HCT := Lib.hid (fun A c A3 k3 l' W h1 h2 h3 => countV hc hlx2 A c A3 k3 l' W h1 h2 h3)
  obtain ⟨dn, hdn⟩ : ∃ dn : Nat → List Int, dn = daysN x [⟨none, 0, rs⟩] fr := ⟨_, rfl⟩
  have HLD : Hid (L = dn (to_ + 1 - fr).toNat) := (by rw [hL, hdn]; rfl : L = _)
  have HD0 : Hid (dn 0 = []) := (by rw [hdn]; rfl : dn 0 = [])
  have HDL : Hid (∀ n, (dn n).length ≤ n) := (fun n => by rw [hdn]; exact daysN_len x _ fr n : ∀ n, (dn n).length ≤ n)
  rw [← hdn] at HSUC
  have HNEG := Lib.hid hneg
  have HFI : Hid (∀ k, (dn k = [] ∧ firstI (dn k) = -1) ∨ (dn k ≠ [] ∧ 0 ≤ firstI (dn k))) := (fun k => by
    have hm : ∀ d ∈ dn k, fr ≤ d := fun d hd => by
      rw [hdn] at hd
      unfold daysN at hd
      have := (List.mem_filter.1 hd).1
      simp only [List.mem_map, List.mem_range] at this
      obtain ⟨i, hi, rfl⟩ := this
      omega
    cases hdk : dn k with
    | nil => exact .inl ⟨rfl, rfl⟩
    | cons d l => rw [hdk] at hm; exact .inr ⟨by simp, by have := hm d (by simp); simp only [firstI]; omega⟩ : ∀ k, (dn k = [] ∧ firstI (dn k) = -1) ∨ (dn k ≠ [] ∧ 0 ≤ firstI (dn k)))
  have HL := Lib.hid hL
  clear hr hcx hlg hn hc hnn hL hdn hneg hlx
  obtain ⟨A, c, l, ⟨e, b, u⟩, ⟨d, p, f, m, y, s, k⟩⟩ := x
  simp only [Alm.cells] at *
  --T in
  go_enter Try.func10, Try.ntmps10
  go_upto_region 1 with fail
  refine gen_w (fun W => Blk W w.heap.size #[.slice A l.length c, .int .i64 e, .int .i64 b, .int .i64 u, .int .i64 d, .int .i64 p, .int .i64 f, .int .i64 m, .int .i64 y, .int .i64 s, .int .i64 k] 28 ∧ Blk W (w.heap.size + 1) #[.int .i64 fr, .int .i64 to_] 36 ∧ Below w.heap.size w W) ⟨(Blk.at_ rfl).alloc _, Blk.at_ (by simp), by (repeat (first | exact Below.refl _ _ | assumption | (refine Below.alloc ?_ (by first | omega | (simp; omega) | (simp; done)) _) | (refine Below.setCell ?_ (by first | omega | (simp; omega) | (simp; done)) _) | (refine Below.drew ?_) | (refine belowN ?_ _) | (refine Below.trans ?_ (Below.mono ‹Below _ _ _› (by first | omega | (simp; omega) | (simp; done))))))⟩ ?_
  rintro V0 ⟨ga, gt, hw⟩
  (have z0 := ga.cell 0; have z1 := ga.cell 1; have z2 := ga.cell 2; have z3 := ga.cell 3; have z4 := ga.cell 4; have z5 := ga.cell 5; have z6 := ga.cell 6; have z7 := ga.cell 7; have z8 := ga.cell 8; have z9 := ga.cell 9; have z10 := ga.cell 10; simp at z0 z1 z2 z3 z4 z5 z6 z7 z8 z9 z10; have u0 := gt.cell 0; have u1 := gt.cell 1; simp at u0 u1)
  go_upto_region 3 with (go_at_call 15; (with_reducible refine (HLG.out _ hw).mono ?_); rintro _ V1 ⟨rfl, hb1⟩; have hw := bl2 hw hb1; have ga := ga.below hb1 ga.lt; have gt := gt.below hb1 gt.lt; (have z0 := ga.cell 0; have z1 := ga.cell 1; have z2 := ga.cell 2; have z3 := ga.cell 3; have z4 := ga.cell 4; have z5 := ga.cell 5; have z6 := ga.cell 6; have z7 := ga.cell 7; have z8 := ga.cell 8; have z9 := ga.cell 9; have z10 := ga.cell 10; simp at z0 z1 z2 z3 z4 z5 z6 z7 z8 z9 z10; have u0 := gt.cell 0; have u1 := gt.cell 1; simp at u0 u1))
  clear hb1
  rename World => w0
  go_cut [7, 8] (fun a b wx => a = .int .i64 nn ∧ b = .int .i64 ne ∧ Below w0.heap.size w0 wx)
  case first =>
    as_aux_lemma =>
      go_region_held3 (fun W' => W'.cell? ⟨w.heap.size, 0, none⟩ = some (.slice A l.length c) ∧ W'.cell? ⟨w.heap.size, 1, none⟩ = some (.int .i64 e) ∧ W'.cell? ⟨w.heap.size, 2, none⟩ = some (.int .i64 b) ∧ W'.cell? ⟨w.heap.size, 3, none⟩ = some (.int .i64 u) ∧ W'.cell? ⟨w.heap.size, 4, none⟩ = some (.int .i64 d) ∧ W'.cell? ⟨w.heap.size, 5, none⟩ = some (.int .i64 p) ∧ W'.cell? ⟨w.heap.size, 6, none⟩ = some (.int .i64 f) ∧ W'.cell? ⟨w.heap.size, 7, none⟩ = some (.int .i64 m) ∧ W'.cell? ⟨w.heap.size, 8, none⟩ = some (.int .i64 y) ∧ W'.cell? ⟨w.heap.size, 9, none⟩ = some (.int .i64 s) ∧ W'.cell? ⟨w.heap.size, 10, none⟩ = some (.int .i64 k) ∧ W'.cell? ⟨w.heap.size + 1, 0, none⟩ = some (.int .i64 fr) ∧ W'.cell? ⟨w.heap.size + 1, 1, none⟩ = some (.int .i64 to_)) (first | exact ⟨z0, z1, z2, z3, z4, z5, z6, z7, z8, z9, z10, u0, u1⟩ | go_keep) (first | (go_at_call 53; (with_reducible refine (HNX.out _ _ _ _ _ _ hs2 hr3 HP3.out).mono ?_); rintro _ w3 ⟨rfl, hb3⟩; have hy3 : Below w0.heap.size w0 w3 := bl2 hy2 hb3; have ga3 := ga.below hy3 ga.lt; have gt3 := gt.below hy3 gt.lt; (have z0 := ga3.cell 0; have z1 := ga3.cell 1; have z2 := ga3.cell 2; have z3 := ga3.cell 3; have z4 := ga3.cell 4; have z5 := ga3.cell 5; have z6 := ga3.cell 6; have z7 := ga3.cell 7; have z8 := ga3.cell 8; have z9 := ga3.cell 9; have z10 := ga3.cell 10; simp at z0 z1 z2 z3 z4 z5 z6 z7 z8 z9 z10; have u0 := gt3.cell 0; have u1 := gt3.cell 1; simp at u0 u1)) | (go_at_call 20; (with_reducible refine (HRU.out _ (bl2 hw hy1)).mono ?_); rintro _ w2 ⟨A3, q3, l', rfl, hpl, hown3, hrow3, hb2⟩; have hs2 := (hs1.below hb2).more hb2.size; have hr3 := RetRls.at_ hown3.out hrow3 (by rw [len_pl hpl]; omega); have HP3 := Lib.hid hpl; clear hpl hown3 hrow3; have hy2 : Below w0.heap.size w0 w2 := bl2 hy1 hb2; have ga2 := ga.below hy2 ga.lt; have gt2 := gt.below hy2 gt.lt; (have z0 := ga2.cell 0; have z1 := ga2.cell 1; have z2 := ga2.cell 2; have z3 := ga2.cell 3; have z4 := ga2.cell 4; have z5 := ga2.cell 5; have z6 := ga2.cell 6; have z7 := ga2.cell 7; have z8 := ga2.cell 8; have z9 := ga2.cell 9; have z10 := ga2.cell 10; simp at z0 z1 z2 z3 z4 z5 z6 z7 z8 z9 z10; have u0 := gt2.cell 0; have u1 := gt2.cell 1; simp at u0 u1)) | (go_at_call 19; (with_reducible refine (HOW.out _ (bl2 hw (by (repeat (first | exact Below.refl _ _ | assumption | (refine Below.alloc ?_ (by first | omega | (simp; omega) | (simp; done)) _) | (refine Below.setCell ?_ (by first | omega | (simp; omega) | (simp; done)) _) | (refine Below.drew ?_) | (refine belowN ?_ _) | (refine Below.trans ?_ (Below.mono ‹Below _ _ _› (by first | omega | (simp; omega) | (simp; done))))))))).mono ?_); rintro _ w1 ⟨A1, q1, rfl, hs1, -, hb1⟩; have hy1 : Below w0.heap.size w0 w1 := Below.trans (by (repeat (first | exact Below.refl _ _ | assumption | (refine Below.alloc ?_ (by first | omega | (simp; omega) | (simp; done)) _) | (refine Below.setCell ?_ (by first | omega | (simp; omega) | (simp; done)) _) | (refine Below.drew ?_) | (refine belowN ?_ _) | (refine Below.trans ?_ (Below.mono ‹Below _ _ _› (by first | omega | (simp; omega) | (simp; done))))))) (hb1.mono (by simp)); have ga1 := ga.below hy1 ga.lt; have gt1 := gt.below hy1 gt.lt; (have z0 := ga1.cell 0; have z1 := ga1.cell 1; have z2 := ga1.cell 2; have z3 := ga1.cell 3; have z4 := ga1.cell 4; have z5 := ga1.cell 5; have z6 := ga1.cell 6; have z7 := ga1.cell 7; have z8 := ga1.cell 8; have z9 := ga1.cell 9; have z10 := ga1.cell 10; simp at z0 z1 z2 z3 z4 z5 z6 z7 z8 z9 z10; have u0 := gt1.cell 0; have u1 := gt1.cell 1; simp at u0 u1)))
      all_goals (
        go_wp2_with fail
        go_meet
        exact ⟨rfl, rfl, hy3⟩)
  case rest =>
    obtain ⟨rfl, rfl, hcx⟩ := hcut
    rename World => W5
    have ga5 := ga.below hcx ga.lt
    have gt5 := gt.below hcx gt.lt
    have hw5 := bl2 hw hcx
    clear hcx ga gt hw
    (clear z0 z1 z2 z3 z4 z5 z6 z7 z8 z9 z10 u0 u1)
    have ga := ga5
    have gt := gt5
    have hw := hw5
    clear ga5 gt5 hw5
    (have z0 := ga.cell 0; have z1 := ga.cell 1; have z2 := ga.cell 2; have z3 := ga.cell 3; have z4 := ga.cell 4; have z5 := ga.cell 5; have z6 := ga.cell 6; have z7 := ga.cell 7; have z8 := ga.cell 8; have z9 := ga.cell 9; have z10 := ga.cell 10; simp at z0 z1 z2 z3 z4 z5 z6 z7 z8 z9 z10; have u0 := gt.cell 0; have u1 := gt.cell 1; simp at u0 u1)
    go_upto_region 4 with fail
    rename World => w0
    go_cut [9, 10] (fun a b wx => a = .int .i64 (L.length : Int) ∧ b = .int .i64 0 ∧ Below w0.heap.size w0 wx)
    case first =>
      as_aux_lemma =>
        go_region_held3 (fun W' => W'.cell? ⟨w.heap.size, 0, none⟩ = some (.slice A l.length c) ∧ W'.cell? ⟨w.heap.size, 1, none⟩ = some (.int .i64 e) ∧ W'.cell? ⟨w.heap.size, 2, none⟩ = some (.int .i64 b) ∧ W'.cell? ⟨w.heap.size, 3, none⟩ = some (.int .i64 u) ∧ W'.cell? ⟨w.heap.size, 4, none⟩ = some (.int .i64 d) ∧ W'.cell? ⟨w.heap.size, 5, none⟩ = some (.int .i64 p) ∧ W'.cell? ⟨w.heap.size, 6, none⟩ = some (.int .i64 f) ∧ W'.cell? ⟨w.heap.size, 7, none⟩ = some (.int .i64 m) ∧ W'.cell? ⟨w.heap.size, 8, none⟩ = some (.int .i64 y) ∧ W'.cell? ⟨w.heap.size, 9, none⟩ = some (.int .i64 s) ∧ W'.cell? ⟨w.heap.size, 10, none⟩ = some (.int .i64 k) ∧ W'.cell? ⟨w.heap.size + 1, 0, none⟩ = some (.int .i64 fr) ∧ W'.cell? ⟨w.heap.size + 1, 1, none⟩ = some (.int .i64 to_)) (first | exact ⟨z0, z1, z2, z3, z4, z5, z6, z7, z8, z9, z10, u0, u1⟩ | go_keep) (first | (go_at_call 54; (with_reducible refine (HCT.out _ _ _ _ _ _ hs2 hr3 HP3.out).mono ?_); rintro _ w3 ⟨rfl, hb3⟩; have hy3 : Below w0.heap.size w0 w3 := bl2 hy2 hb3; have ga3 := ga.below hy3 ga.lt; have gt3 := gt.below hy3 gt.lt; (have z0 := ga3.cell 0; have z1 := ga3.cell 1; have z2 := ga3.cell 2; have z3 := ga3.cell 3; have z4 := ga3.cell 4; have z5 := ga3.cell 5; have z6 := ga3.cell 6; have z7 := ga3.cell 7; have z8 := ga3.cell 8; have z9 := ga3.cell 9; have z10 := ga3.cell 10; simp at z0 z1 z2 z3 z4 z5 z6 z7 z8 z9 z10; have u0 := gt3.cell 0; have u1 := gt3.cell 1; simp at u0 u1)) | (go_at_call 20; (with_reducible refine (HRU.out _ (bl2 hw hy1)).mono ?_); rintro _ w2 ⟨A3, q3, l', rfl, hpl, hown3, hrow3, hb2⟩; have hs2 := (hs1.below hb2).more hb2.size; have hr3 := RetRls.at_ hown3.out hrow3 (by rw [len_pl hpl]; omega); have HP3 := Lib.hid hpl; clear hpl hown3 hrow3; have hy2 : Below w0.heap.size w0 w2 := bl2 hy1 hb2; have ga2 := ga.below hy2 ga.lt; have gt2 := gt.below hy2 gt.lt; (have z0 := ga2.cell 0; have z1 := ga2.cell 1; have z2 := ga2.cell 2; have z3 := ga2.cell 3; have z4 := ga2.cell 4; have z5 := ga2.cell 5; have z6 := ga2.cell 6; have z7 := ga2.cell 7; have z8 := ga2.cell 8; have z9 := ga2.cell 9; have z10 := ga2.cell 10; simp at z0 z1 z2 z3 z4 z5 z6 z7 z8 z9 z10; have u0 := gt2.cell 0; have u1 := gt2.cell 1; simp at u0 u1)) | (go_at_call 19; (with_reducible refine (HOW.out _ (bl2 hw (by (repeat (first | exact Below.refl _ _ | assumption | (refine Below.alloc ?_ (by first | omega | (simp; omega) | (simp; done)) _) | (refine Below.setCell ?_ (by first | omega | (simp; omega) | (simp; done)) _) | (refine Below.drew ?_) | (refine belowN ?_ _) | (refine Below.trans ?_ (Below.mono ‹Below _ _ _› (by first | omega | (simp; omega) | (simp; done))))))))).mono ?_); rintro _ w1 ⟨A1, q1, rfl, hs1, -, hb1⟩; have hy1 : Below w0.heap.size w0 w1 := Below.trans (by (repeat (first | exact Below.refl _ _ | assumption | (refine Below.alloc ?_ (by first | omega | (simp; omega) | (simp; done)) _) | (refine Below.setCell ?_ (by first | omega | (simp; omega) | (simp; done)) _) | (refine Below.drew ?_) | (refine belowN ?_ _) | (refine Below.trans ?_ (Below.mono ‹Below _ _ _› (by first | omega | (simp; omega) | (simp; done))))))) (hb1.mono (by simp)); have ga1 := ga.below hy1 ga.lt; have gt1 := gt.below hy1 gt.lt; (have z0 := ga1.cell 0; have z1 := ga1.cell 1; have z2 := ga1.cell 2; have z3 := ga1.cell 3; have z4 := ga1.cell 4; have z5 := ga1.cell 5; have z6 := ga1.cell 6; have z7 := ga1.cell 7; have z8 := ga1.cell 8; have z9 := ga1.cell 9; have z10 := ga1.cell 10; simp at z0 z1 z2 z3 z4 z5 z6 z7 z8 z9 z10; have u0 := gt1.cell 0; have u1 := gt1.cell 1; simp at u0 u1)))
        all_goals (
          go_wp2_with fail
          go_meet
          exact ⟨rfl, rfl, hy3⟩)
    case rest =>
      obtain ⟨rfl, rfl, hcx⟩ := hcut
      rename World => W6
      have ga5 := ga.below hcx ga.lt
      have gt5 := gt.below hcx gt.lt
      have hw5 := bl2 hw hcx
      clear hcx ga gt hw
      (clear z0 z1 z2 z3 z4 z5 z6 z7 z8 z9 z10 u0 u1)
      have ga := ga5
      have gt := gt5
      have hw := hw5
      clear ga5 gt5 hw5
      (have z0 := ga.cell 0; have z1 := ga.cell 1; have z2 := ga.cell 2; have z3 := ga.cell 3; have z4 := ga.cell 4; have z5 := ga.cell 5; have z6 := ga.cell 6; have z7 := ga.cell 7; have z8 := ga.cell 8; have z9 := ga.cell 9; have z10 := ga.cell 10; simp at z0 z1 z2 z3 z4 z5 z6 z7 z8 z9 z10; have u0 := gt.cell 0; have u1 := gt.cell 1; simp at u0 u1)
      clear HNX HCT
      have hL0 := HLD.out
      go_upto_region 9 with fail
      have HW6 := Lib.hid hw; have HGA6 := Lib.hid ga; have HGT6 := Lib.hid gt
      clear hw ga gt hL0 q1 q2 q3 q4 q5 q6
      (clear z0 z1 z2 z3 z4 z5 z6 z7 z8 z9 z10 u0 u1)
      --T loop
      go_loopw [11, 12, 13, 14, 15, 16] (fun s11 s12 s13 _ _ _ wr => ∃ t : Nat, (t : Int) ≤ to_ + 1 - fr ∧ s13 = .int .i64 (fr + t) ∧ s11 = .int .i64 ((dn t).length : Int) ∧ s12 = .int .i64 (firstI (dn t)) ∧ Hid (Below W6.heap.size W6 wr)) (fun _ _ s13 _ _ _ _ => (to_ + 1 - intOf s13).toNat)
      case atStart => exact ⟨0, by omega, by simp, by rw [HD0.out]; rfl, by rw [HD0.out]; rfl, Below.refl _ _⟩
      case round =>
        obtain ⟨t, hk, rfl, rfl, rfl, hb6⟩ := hrel
        have hb6 := hb6.out
        have hw := bl2 HW6.out hb6
        have ga := HGA6.out.below hb6 HGA6.out.lt
        have gt := HGT6.out.below hb6 HGT6.out.lt
        (have z0 := ga.cell 0; have z1 := ga.cell 1; have z2 := ga.cell 2; have z3 := ga.cell 3; have z4 := ga.cell 4; have z5 := ga.cell 5; have z6 := ga.cell 6; have z7 := ga.cell 7; have z8 := ga.cell 8; have z9 := ga.cell 9; have z10 := ga.cell 10; simp at z0 z1 z2 z3 z4 z5 z6 z7 z8 z9 z10; have u0 := gt.cell 0; have u1 := gt.cell 1; simp at u0 u1)
        have hdl := HDL.out t
        by_cases hlt : fr + (t : Int) ≤ to_
        · --D<rnd
          as_aux_lemma =>
            have t1 : decide (fr + (t : Int) ≤ to_) = true := by simpa using hlt
            have HAL := Lib.hid (HAL0.out (fr + t) (inB_iff.2 ⟨by omega, by omega⟩))
            have HSU := Lib.hid (HSUC.out t)
            have HAB := Lib.hid (HALB.out (fr + t))
            have hdb := HDBD.out (fr + t)
            obtain ⟨al, hal⟩ : ∃ v, v = allowB ⟨A, c, l, ⟨e, b, u⟩, ⟨d, p, f, m, y, s, k⟩⟩ rs (fr + t) := ⟨_, rfl⟩
            obtain ⟨di, hdi⟩ : ∃ v, v = decI ⟨A, c, l, ⟨e, b, u⟩, ⟨d, p, f, m, y, s, k⟩⟩ rs (fr + t) := ⟨_, rfl⟩
            rw [← hal, ← hdi] at HAL HAB
            rw [← hal] at HSU
            rw [← hdi] at hdb
            have hF := HFI.out t
            obtain ⟨D, hD⟩ : ∃ D, D = dn t := ⟨_, rfl⟩
            rw [← hD] at HSU hF hdl ⊢
            have v1 : IntKind.i64.wrap (fr + (t : Int) + 1) = fr + (t : Int) + 1 := IntWalk.i64_in _ ⟨by omega, by omega⟩
            have v2 : IntKind.i64.wrap ((D.length : Int) + 1) = (D.length : Int) + 1 := IntWalk.i64_in _ ⟨by omega, by omega⟩
            have t2 : decide (di < -1) = false := decide_eq_false (by omega)
            have t3 : decide ((rs.length : Int) ≤ di) = false := decide_eq_false (by omega)
            clear hal hdi hD
            go_upto_region 12 with (first | (go_at_call 19; (with_reducible refine (HOW.out _ hw).mono ?_); rintro _ V2 ⟨A1, q1, rfl, hs1, -, hb1⟩; have hw := bl2 hw hb1; have hb6 := bl2 hb6 hb1; have ga := ga.below hb1 ga.lt; have gt := gt.below hb1 gt.lt; (have z0 := ga.cell 0; have z1 := ga.cell 1; have z2 := ga.cell 2; have z3 := ga.cell 3; have z4 := ga.cell 4; have z5 := ga.cell 5; have z6 := ga.cell 6; have z7 := ga.cell 7; have z8 := ga.cell 8; have z9 := ga.cell 9; have z10 := ga.cell 10; simp at z0 z1 z2 z3 z4 z5 z6 z7 z8 z9 z10; have u0 := gt.cell 0; have u1 := gt.cell 1; simp at u0 u1)) | (go_at_call 20; (with_reducible refine (HRU.out _ hw).mono ?_); rintro _ V4 ⟨A3, q3, l', rfl, hpl, hown3, hrow3, hb1⟩; have hs1 := (hs1.below hb1).more hb1.size; have hr3 := RetRls.at_ hown3.out hrow3 (by rw [len_pl hpl]; omega); have HP3 := Lib.hid hpl; clear hpl hown3 hrow3; have hw := bl2 hw hb1; have hb6 := bl2 hb6 hb1; have ga := ga.below hb1 ga.lt; have gt := gt.below hb1 gt.lt; (have z0 := ga.cell 0; have z1 := ga.cell 1; have z2 := ga.cell 2; have z3 := ga.cell 3; have z4 := ga.cell 4; have z5 := ga.cell 5; have z6 := ga.cell 6; have z7 := ga.cell 7; have z8 := ga.cell 8; have z9 := ga.cell 9; have z10 := ga.cell 10; simp at z0 z1 z2 z3 z4 z5 z6 z7 z8 z9 z10; have u0 := gt.cell 0; have u1 := gt.cell 1; simp at u0 u1)) | (go_at_call 37; (with_reducible refine (HAL.out _ _ _ _ _ _ hs1 hr3 HP3.out).mono ?_); rintro _ V5 ⟨rfl, hb1⟩; have hw := bl2 hw hb1; have hb6 := bl2 hb6 hb1; have ga := ga.below hb1 ga.lt; have gt := gt.below hb1 gt.lt; (have z0 := ga.cell 0; have z1 := ga.cell 1; have z2 := ga.cell 2; have z3 := ga.cell 3; have z4 := ga.cell 4; have z5 := ga.cell 5; have z6 := ga.cell 6; have z7 := ga.cell 7; have z8 := ga.cell 8; have z9 := ga.cell 9; have z10 := ga.cell 10; simp at z0 z1 z2 z3 z4 z5 z6 z7 z8 z9 z10; have u0 := gt.cell 0; have u1 := gt.cell 1; simp at u0 u1)))
            clear hb1 hs1 hr3
            have HB6 := Lib.hid hb6
            by_cases hn : di < 0
            · have t4 : decide (0 ≤ di) = false := decide_eq_false (by omega)
              obtain rfl : al = false := by rw [HAB.out, decide_eq_false (show ¬ 0 ≤ di by omega)]; rfl
              have HS2 : Hid (dn (t + 1) = D) := (by rw [HSU.out]; simp : dn (t + 1) = D)
              go_wp2_with fail
              go_roundw
              case rel => exact ⟨t + 1, by omega, by rw [show fr + ((t + 1 : Nat) : Int) = fr + (t : Int) + 1 by omega], by rw [HS2.out], by rw [HS2.out], HB6⟩
              case measure => simp only [intOf]; omega
            · obtain ⟨n, rfl⟩ := Int.eq_ofNat_of_zero_le (show 0 ≤ di by omega)
              have t4 : decide ((0 : Int) ≤ (n : Int)) = true := decide_eq_true (by omega)
              have hnl : n < rs.length := by omega
              obtain ⟨ub, uo, rfl, hublk, hucell⟩ := (HRLA.out.sl.below hw).at_ (k := n) (fun _ => rfl) hnl
              have HOK2 : Hid (al = rs[n].allow) := (by rw [HAB.out, decide_eq_true (show (0 : Int) ≤ (n : Int) by omega), Int.toNat_natCast, List.getElem?_eq_getElem hnl]; rfl : al = _)
              have u9 := hucell 1 _ (show (DRl.cells rs[n])[1]? = some (.bool rs[n].allow) from rfl)
              rw [← HOK2.out] at u9
              have n0 : (0 : Int) ≤ (n : Int) := by omega
              have n1 : (n : Int) < (rs.length : Int) := by omega
              clear hucell
              cases al with
              | false =>
                have HS2 : Hid (dn (t + 1) = D) := (by rw [HSU.out]; simp : dn (t + 1) = D)
                go_wp2_with fail
                go_roundw
                case rel => exact ⟨t + 1, by omega, by rw [show fr + ((t + 1 : Nat) : Int) = fr + (t : Int) + 1 by omega], by rw [HS2.out], by rw [HS2.out], HB6⟩
                case measure => simp only [intOf]; omega
              | true =>
                have HS2 : Hid (dn (t + 1) = D ++ [fr + (t : Int)]) := (by rw [HSU.out]; simp : dn (t + 1) = _)
                have HSN := Lib.hid (firstI_snoc D (fr + t))
                rcases hF with ⟨hF1, hF2⟩ | ⟨hF1, hF2⟩
                · have HF1 := Lib.hid hF1
                  have t5 : decide (firstI D < 0) = true := decide_eq_true (by omega)
                  clear hF1 hF2
                  go_wp2_with fail
                  go_roundw
                  case rel => exact ⟨t + 1, by omega, by rw [show fr + ((t + 1 : Nat) : Int) = fr + (t : Int) + 1 by omega], by rw [HS2.out, List.length_append, List.length_singleton]; congr 1, by rw [HS2.out, HSN.out, if_pos HF1.out], HB6⟩
                  case measure => simp only [intOf]; omega
                · have HF1 := Lib.hid hF1
                  have t5 : decide (firstI D < 0) = false := decide_eq_false (by omega)
                  clear hF1 hF2
                  go_wp2_with fail
                  go_roundw
                  case rel => exact ⟨t + 1, by omega, by rw [show fr + ((t + 1 : Nat) : Int) = fr + (t : Int) + 1 by omega], by rw [HS2.out, List.length_append, List.length_singleton]; congr 1, by rw [HS2.out, HSN.out, if_neg HF1.out], HB6⟩
                  case measure => simp only [intOf]; omega
          --D>
        · --D<end
          as_aux_lemma =>
            have hkn : t = (to_ + 1 - fr).toNat := by omega
            have HDK : Hid (dn t = L) := (by rw [HLD.out, hkn] : dn t = L)
            rw [HDK.out]
            have t1 : decide (fr + (t : Int) ≤ to_) = false := decide_eq_false (by omega)
            clear hkn HAL0 HALB HDBD HSUC hdl
            go_upto_region 18 with fail
            rename World => W8
            have HNG := HNEG.out
            obtain ⟨F, hF⟩ : ∃ F, F = firstI L := ⟨_, rfl⟩
            rw [← hF] at HNG ⊢
            clear hF HNEG
            have HNEG := Lib.hid HNG
            clear HNG
            go_cut [170] (fun a wx => a = .bool false ∧ W8 = wx)
            case first =>
              --D<c170
              rcases HNEG.out with ⟨h1, h2, h3⟩ | ⟨dd, h1, h2, h3⟩
              · obtain ⟨rfl, rfl⟩ := Prod.mk.inj h3
                have t5 : decide (F < 0) = true := decide_eq_true (by omega)
                have t6 : decide (0 ≤ F) = false := decide_eq_false (by omega)
                clear h1 h2 h3 HNEG
                go_wp2_with fail
                go_meet
                exact ⟨rfl, rfl⟩
              · obtain ⟨rfl, rfl⟩ := Prod.mk.inj h3
                subst h2
                have t5 : decide (F < 0) = false := decide_eq_false (by omega)
                have t6 : decide (0 ≤ F) = true := decide_eq_true (by omega)
                clear h1 h3 HNEG
                go_wp2_with fail
                go_meet
                exact ⟨rfl, rfl⟩
              --D>
            case rest =>
              obtain ⟨rfl, rfl⟩ := hcut
              clear HNEG t1 HGA6 HGT6 HW6 hlt hk hb6
              have v1 : IntKind.i64.wrap (fr + to_) = fr + to_ := IntWalk.i64_in _ ⟨by omega, by omega⟩
              as_aux_lemma =>
                --T r20
                go_upto_region 21 with fail
                obtain ⟨M, hM⟩ : ∃ M, M = (fr + to_) / 2 := ⟨_, rfl⟩
                rw [← hM]
                have m1 : fr ≤ M := by omega
                have m2 : M ≤ to_ := by omega
                clear hM v1
                obtain ⟨n1, hn1⟩ : ∃ n1, n1 = (spanL ⟨A, c, l, ⟨e, b, u⟩, ⟨d, p, f, m, y, s, k⟩⟩ rs fr M).length := ⟨_, rfl⟩
                have hc1 := (nextR_ok hb (spanB_iff.2 ⟨by omega, by omega, by omega, by omega⟩ : spanB fr M = true)).2
                rw [← hn1] at hc1
                have HCT := Lib.hid (fun A' c' A3 k3 l' W h1 h2 h3 => countV hc1 hlx2 A' c' A3 k3 l' W h1 h2 h3)
                simp only [Alm.cells] at HCT
                have HN1 := Lib.hid hn1
                clear hc1 hn1
                --T cut21
                rename World => w0
                go_cut [18, 8] (fun a b wx => a = .int .i64 (n1 : Int) ∧ b = .int .i64 0 ∧ Below w0.heap.size w0 wx)
                case first =>
                  as_aux_lemma =>
                    go_region_held3 (fun W' => W'.cell? ⟨w.heap.size, 0, none⟩ = some (.slice A l.length c) ∧ W'.cell? ⟨w.heap.size, 1, none⟩ = some (.int .i64 e) ∧ W'.cell? ⟨w.heap.size, 2, none⟩ = some (.int .i64 b) ∧ W'.cell? ⟨w.heap.size, 3, none⟩ = some (.int .i64 u) ∧ W'.cell? ⟨w.heap.size, 4, none⟩ = some (.int .i64 d) ∧ W'.cell? ⟨w.heap.size, 5, none⟩ = some (.int .i64 p) ∧ W'.cell? ⟨w.heap.size, 6, none⟩ = some (.int .i64 f) ∧ W'.cell? ⟨w.heap.size, 7, none⟩ = some (.int .i64 m) ∧ W'.cell? ⟨w.heap.size, 8, none⟩ = some (.int .i64 y) ∧ W'.cell? ⟨w.heap.size, 9, none⟩ = some (.int .i64 s) ∧ W'.cell? ⟨w.heap.size, 10, none⟩ = some (.int .i64 k) ∧ W'.cell? ⟨w.heap.size + 1, 0, none⟩ = some (.int .i64 fr) ∧ W'.cell? ⟨w.heap.size + 1, 1, none⟩ = some (.int .i64 to_)) (first | exact ⟨z0, z1, z2, z3, z4, z5, z6, z7, z8, z9, z10, u0, u1⟩ | go_keep) (first | (go_at_call 54; (with_reducible refine (HCT.out _ _ _ _ _ _ hs2 hr3 HP3.out).mono ?_); rintro _ w3 ⟨rfl, hb3⟩; have hy3 : Below w0.heap.size w0 w3 := bl2 hy2 hb3; have ga3 := ga.below hy3 ga.lt; have gt3 := gt.below hy3 gt.lt; (have z0 := ga3.cell 0; have z1 := ga3.cell 1; have z2 := ga3.cell 2; have z3 := ga3.cell 3; have z4 := ga3.cell 4; have z5 := ga3.cell 5; have z6 := ga3.cell 6; have z7 := ga3.cell 7; have z8 := ga3.cell 8; have z9 := ga3.cell 9; have z10 := ga3.cell 10; simp at z0 z1 z2 z3 z4 z5 z6 z7 z8 z9 z10; have u0 := gt3.cell 0; have u1 := gt3.cell 1; simp at u0 u1)) | (go_at_call 20; (with_reducible refine (HRU.out _ (bl2 hw hy1)).mono ?_); rintro _ w2 ⟨A3, q3, l', rfl, hpl, hown3, hrow3, hb2⟩; have hs2 := (hs1.below hb2).more hb2.size; have hr3 := RetRls.at_ hown3.out hrow3 (by rw [len_pl hpl]; omega); have HP3 := Lib.hid hpl; clear hpl hown3 hrow3; have hy2 : Below w0.heap.size w0 w2 := bl2 hy1 hb2; have ga2 := ga.below hy2 ga.lt; have gt2 := gt.below hy2 gt.lt; (have z0 := ga2.cell 0; have z1 := ga2.cell 1; have z2 := ga2.cell 2; have z3 := ga2.cell 3; have z4 := ga2.cell 4; have z5 := ga2.cell 5; have z6 := ga2.cell 6; have z7 := ga2.cell 7; have z8 := ga2.cell 8; have z9 := ga2.cell 9; have z10 := ga2.cell 10; simp at z0 z1 z2 z3 z4 z5 z6 z7 z8 z9 z10; have u0 := gt2.cell 0; have u1 := gt2.cell 1; simp at u0 u1)) | (go_at_call 19; (with_reducible refine (HOW.out _ (bl2 hw (by (repeat (first | exact Below.refl _ _ | assumption | (refine Below.alloc ?_ (by first | omega | (simp; omega) | (simp; done)) _) | (refine Below.setCell ?_ (by first | omega | (simp; omega) | (simp; done)) _) | (refine Below.drew ?_) | (refine belowN ?_ _) | (refine Below.trans ?_ (Below.mono ‹Below _ _ _› (by first | omega | (simp; omega) | (simp; done))))))))).mono ?_); rintro _ w1 ⟨A1, q1, rfl, hs1, -, hb1⟩; have hy1 : Below w0.heap.size w0 w1 := Below.trans (by (repeat (first | exact Below.refl _ _ | assumption | (refine Below.alloc ?_ (by first | omega | (simp; omega) | (simp; done)) _) | (refine Below.setCell ?_ (by first | omega | (simp; omega) | (simp; done)) _) | (refine Below.drew ?_) | (refine belowN ?_ _) | (refine Below.trans ?_ (Below.mono ‹Below _ _ _› (by first | omega | (simp; omega) | (simp; done))))))) (hb1.mono (by simp)); have ga1 := ga.below hy1 ga.lt; have gt1 := gt.below hy1 gt.lt; (have z0 := ga1.cell 0; have z1 := ga1.cell 1; have z2 := ga1.cell 2; have z3 := ga1.cell 3; have z4 := ga1.cell 4; have z5 := ga1.cell 5; have z6 := ga1.cell 6; have z7 := ga1.cell 7; have z8 := ga1.cell 8; have z9 := ga1.cell 9; have z10 := ga1.cell 10; simp at z0 z1 z2 z3 z4 z5 z6 z7 z8 z9 z10; have u0 := gt1.cell 0; have u1 := gt1.cell 1; simp at u0 u1)))
                    all_goals (
                      go_wp2_with fail
                      go_meet
                      exact ⟨rfl, rfl, hy3⟩)
                case rest =>
                  obtain ⟨rfl, rfl, hcx⟩ := hcut
                  rename World => W9
                  have ga5 := ga.below hcx ga.lt
                  have gt5 := gt.below hcx gt.lt
                  have hw5 := bl2 hw hcx
                  clear hcx ga gt hw
                  (clear z0 z1 z2 z3 z4 z5 z6 z7 z8 z9 z10 u0 u1)
                  have ga := ga5
                  have gt := gt5
                  have hw := hw5
                  clear ga5 gt5 hw5
                  (have z0 := ga.cell 0; have z1 := ga.cell 1; have z2 := ga.cell 2; have z3 := ga.cell 3; have z4 := ga.cell 4; have z5 := ga.cell 5; have z6 := ga.cell 6; have z7 := ga.cell 7; have z8 := ga.cell 8; have z9 := ga.cell 9; have z10 := ga.cell 10; simp at z0 z1 z2 z3 z4 z5 z6 z7 z8 z9 z10; have u0 := gt.cell 0; have u1 := gt.cell 1; simp at u0 u1)
                  clear HCT
                  --T if191
                  go_upto_if 191 with fail
                  go_cut [19, 10] (fun a b2 wx => ∃ n2 : Nat, n1 + n2 = L.length ∧ a = .int .i64 (n2 : Int) ∧ b2 = .int .i64 0 ∧ Below W9.heap.size W9 wx)
                  case first =>
                    as_aux_lemma =>
                      --D<half
                      --T half
                      by_cases hmt : M < to_
                      · have t7 : decide (M < to_) = true := decide_eq_true hmt
                        rw [t7]
                        have v3 : IntKind.i64.wrap (M + 1) = M + 1 := IntWalk.i64_in _ ⟨by omega, by omega⟩
                        obtain ⟨n2, hn2⟩ : ∃ n2, n2 = (spanL ⟨A, c, l, ⟨e, b, u⟩, ⟨d, p, f, m, y, s, k⟩⟩ rs (M + 1) to_).length := ⟨_, rfl⟩
                        have hc1 := (nextR_ok hb (spanB_iff.2 ⟨by omega, by omega, by omega, by omega⟩ : spanB (M + 1) to_ = true)).2
                        rw [← hn2] at hc1
                        have hsum : n1 + n2 = L.length := by rw [HL.out, spanL_split _ _ m1 hmt, List.length_append, HN1.out, hn2]
                        have HCT := Lib.hid (fun A' c' A3 k3 l' W h1 h2 h3 => countV hc1 hlx2 A' c' A3 k3 l' W h1 h2 h3)
                        simp only [Alm.cells] at HCT
                        clear hc1 hn2 hmt
                        go_upto_region 24 with fail
                        --T h1
                        rename World => w0
                        go_cut [19, 10] (fun a b wx => a = .int .i64 (n2 : Int) ∧ b = .int .i64 0 ∧ Below w0.heap.size w0 wx)
                        case first =>
                          as_aux_lemma =>
                            go_region_held3 (fun W' => W'.cell? ⟨w.heap.size, 0, none⟩ = some (.slice A l.length c) ∧ W'.cell? ⟨w.heap.size, 1, none⟩ = some (.int .i64 e) ∧ W'.cell? ⟨w.heap.size, 2, none⟩ = some (.int .i64 b) ∧ W'.cell? ⟨w.heap.size, 3, none⟩ = some (.int .i64 u) ∧ W'.cell? ⟨w.heap.size, 4, none⟩ = some (.int .i64 d) ∧ W'.cell? ⟨w.heap.size, 5, none⟩ = some (.int .i64 p) ∧ W'.cell? ⟨w.heap.size, 6, none⟩ = some (.int .i64 f) ∧ W'.cell? ⟨w.heap.size, 7, none⟩ = some (.int .i64 m) ∧ W'.cell? ⟨w.heap.size, 8, none⟩ = some (.int .i64 y) ∧ W'.cell? ⟨w.heap.size, 9, none⟩ = some (.int .i64 s) ∧ W'.cell? ⟨w.heap.size, 10, none⟩ = some (.int .i64 k) ∧ W'.cell? ⟨w.heap.size + 1, 0, none⟩ = some (.int .i64 fr) ∧ W'.cell? ⟨w.heap.size + 1, 1, none⟩ = some (.int .i64 to_)) (first | exact ⟨z0, z1, z2, z3, z4, z5, z6, z7, z8, z9, z10, u0, u1⟩ | go_keep) (first | (go_at_call 54; (with_reducible refine (HCT.out _ _ _ _ _ _ hs2 hr3 HP3.out).mono ?_); rintro _ w3 ⟨rfl, hb3⟩; have hy3 : Below w0.heap.size w0 w3 := bl2 hy2 hb3; have ga3 := ga.below hy3 ga.lt; have gt3 := gt.below hy3 gt.lt; (have z0 := ga3.cell 0; have z1 := ga3.cell 1; have z2 := ga3.cell 2; have z3 := ga3.cell 3; have z4 := ga3.cell 4; have z5 := ga3.cell 5; have z6 := ga3.cell 6; have z7 := ga3.cell 7; have z8 := ga3.cell 8; have z9 := ga3.cell 9; have z10 := ga3.cell 10; simp at z0 z1 z2 z3 z4 z5 z6 z7 z8 z9 z10; have u0 := gt3.cell 0; have u1 := gt3.cell 1; simp at u0 u1)) | (go_at_call 20; (with_reducible refine (HRU.out _ (bl2 hw hy1)).mono ?_); rintro _ w2 ⟨A3, q3, l', rfl, hpl, hown3, hrow3, hb2⟩; have hs2 := (hs1.below hb2).more hb2.size; have hr3 := RetRls.at_ hown3.out hrow3 (by rw [len_pl hpl]; omega); have HP3 := Lib.hid hpl; clear hpl hown3 hrow3; have hy2 : Below w0.heap.size w0 w2 := bl2 hy1 hb2; have ga2 := ga.below hy2 ga.lt; have gt2 := gt.below hy2 gt.lt; (have z0 := ga2.cell 0; have z1 := ga2.cell 1; have z2 := ga2.cell 2; have z3 := ga2.cell 3; have z4 := ga2.cell 4; have z5 := ga2.cell 5; have z6 := ga2.cell 6; have z7 := ga2.cell 7; have z8 := ga2.cell 8; have z9 := ga2.cell 9; have z10 := ga2.cell 10; simp at z0 z1 z2 z3 z4 z5 z6 z7 z8 z9 z10; have u0 := gt2.cell 0; have u1 := gt2.cell 1; simp at u0 u1)) | (go_at_call 19; (with_reducible refine (HOW.out _ (bl2 hw (by (repeat (first | exact Below.refl _ _ | assumption | (refine Below.alloc ?_ (by first | omega | (simp; omega) | (simp; done)) _) | (refine Below.setCell ?_ (by first | omega | (simp; omega) | (simp; done)) _) | (refine Below.drew ?_) | (refine belowN ?_ _) | (refine Below.trans ?_ (Below.mono ‹Below _ _ _› (by first | omega | (simp; omega) | (simp; done))))))))).mono ?_); rintro _ w1 ⟨A1, q1, rfl, hs1, -, hb1⟩; have hy1 : Below w0.heap.size w0 w1 := Below.trans (by (repeat (first | exact Below.refl _ _ | assumption | (refine Below.alloc ?_ (by first | omega | (simp; omega) | (simp; done)) _) | (refine Below.setCell ?_ (by first | omega | (simp; omega) | (simp; done)) _) | (refine Below.drew ?_) | (refine belowN ?_ _) | (refine Below.trans ?_ (Below.mono ‹Below _ _ _› (by first | omega | (simp; omega) | (simp; done))))))) (hb1.mono (by simp)); have ga1 := ga.below hy1 ga.lt; have gt1 := gt.below hy1 gt.lt; (have z0 := ga1.cell 0; have z1 := ga1.cell 1; have z2 := ga1.cell 2; have z3 := ga1.cell 3; have z4 := ga1.cell 4; have z5 := ga1.cell 5; have z6 := ga1.cell 6; have z7 := ga1.cell 7; have z8 := ga1.cell 8; have z9 := ga1.cell 9; have z10 := ga1.cell 10; simp at z0 z1 z2 z3 z4 z5 z6 z7 z8 z9 z10; have u0 := gt1.cell 0; have u1 := gt1.cell 1; simp at u0 u1)))
                            all_goals (
                              go_wp2_with fail
                              go_meet
                              exact ⟨rfl, rfl, hy3⟩)
                        case rest =>
                          --T h2
                          obtain ⟨rfl, rfl, hcx⟩ := hcut
                          go_wp2_with fail
                          --T h3
                          go_meet
                          exact ⟨n2, hsum, rfl, rfl, hcx⟩
                          --T h4
                      · have t7 : decide (M < to_) = false := decide_eq_false hmt
                        rw [t7]
                        have hsum : n1 + 0 = L.length := by rw [HL.out, HN1.out, show M = to_ by omega]; omega
                        clear hmt
                        go_wp2_with fail
                        go_meet
                        exact ⟨0, hsum, rfl, rfl, Below.refl _ _⟩
                      --D>
                  case rest =>
                    --T halfend
                    obtain ⟨n2, hsum, rfl, rfl, hcx⟩ := hcut
                    rename World => W10
                    have ga5 := ga.below hcx ga.lt
                    have gt5 := gt.below hcx gt.lt
                    have hw5 := bl2 hw hcx
                    clear hcx ga gt hw
                    (clear z0 z1 z2 z3 z4 z5 z6 z7 z8 z9 z10 u0 u1)
                    have ga := ga5
                    have gt := gt5
                    have hw := hw5
                    clear ga5 gt5 hw5
                    (have z0 := ga.cell 0; have z1 := ga.cell 1; have z2 := ga.cell 2; have z3 := ga.cell 3; have z4 := ga.cell 4; have z5 := ga.cell 5; have z6 := ga.cell 6; have z7 := ga.cell 7; have z8 := ga.cell 8; have z9 := ga.cell 9; have z10 := ga.cell 10; simp at z0 z1 z2 z3 z4 z5 z6 z7 z8 z9 z10; have u0 := gt.cell 0; have u1 := gt.cell 1; simp at u0 u1)
                    have v3 : IntKind.i64.wrap ((n1 : Int) + (n2 : Int)) = (L.length : Int) := by
                      have hl := HDL.out (to_ + 1 - fr).toNat
                      rw [← HLD.out] at hl
                      rw [← hsum]
                      exact (IntWalk.i64_in _ ⟨by omega, by omega⟩).trans (by omega)
                    clear hsum HN1
                    obtain ⟨i1, hi1, iy0, iy1, iy2⟩ := info_parts infoRul
                    have hc3 := (nextR_ok (bothE_last hb h29 true) hsp).2
                    rw [spanL_all (fun d => allowB_last _ rs true d), show (((to_ + 1 - fr).toNat : Nat) : Int) = to_ - fr + 1 by omega] at hc3
                    have HC3 := Lib.hid (fun A' c' gg cap l' W h1 h2 h3 => countP hc3 hlx2 A' c' gg cap l' W h1 h2 h3)
                    have hc4 := (nextR_ok (bothE_last hb h29 false) hsp).2
                    rw [spanL_none (fun d => allowB_last _ rs false d), show ((([] : List Int).length : Nat) : Int) = 0 from rfl] at hc4
                    have HC4 := Lib.hid (fun A' c' gg cap l' W h1 h2 h3 => countP hc4 hlx2 A' c' gg cap l' W h1 h2 h3)
                    simp only [Alm.cells] at HC3 HC4
                    clear hc3 hc4
                    as_aux_lemma =>
                      --T r25
                      go_upto_region 27 with fail
                      --T r27
                      have hsz0 : W10.heap.size ≤ W10.heap.size := Nat.le_refl _
                      have hw00 := hw.size
                      have gt00 := gt.lt
                      rename World => w0
                      go_cut [18, 8] (fun a1 a2 wx => a1 = .int .i64 (to_ - fr + 1) ∧ a2 = .int .i64 0 ∧ Below w.heap.size w wx ∧ Blk wx w.heap.size #[.slice A l.length c, .int .i64 e, .int .i64 b, .int .i64 u, .int .i64 d, .int .i64 p, .int .i64 f, .int .i64 m, .int .i64 y, .int .i64 s, .int .i64 k] 28 ∧ Blk wx (w.heap.size + 1) #[.int .i64 fr, .int .i64 to_] 36)
                      case first =>
                        as_aux_lemma =>
                          go_region_held3 (fun W' => W'.cell? ⟨w.heap.size, 0, none⟩ = some (.slice A l.length c) ∧ W'.cell? ⟨w.heap.size, 1, none⟩ = some (.int .i64 e) ∧ W'.cell? ⟨w.heap.size, 2, none⟩ = some (.int .i64 b) ∧ W'.cell? ⟨w.heap.size, 3, none⟩ = some (.int .i64 u) ∧ W'.cell? ⟨w.heap.size, 4, none⟩ = some (.int .i64 d) ∧ W'.cell? ⟨w.heap.size, 5, none⟩ = some (.int .i64 p) ∧ W'.cell? ⟨w.heap.size, 6, none⟩ = some (.int .i64 f) ∧ W'.cell? ⟨w.heap.size, 7, none⟩ = some (.int .i64 m) ∧ W'.cell? ⟨w.heap.size, 8, none⟩ = some (.int .i64 y) ∧ W'.cell? ⟨w.heap.size, 9, none⟩ = some (.int .i64 s) ∧ W'.cell? ⟨w.heap.size, 10, none⟩ = some (.int .i64 k) ∧ W'.cell? ⟨w.heap.size + 1, 0, none⟩ = some (.int .i64 fr) ∧ W'.cell? ⟨w.heap.size + 1, 1, none⟩ = some (.int .i64 to_)) (first | exact ⟨z0, z1, z2, z3, z4, z5, z6, z7, z8, z9, z10, u0, u1⟩ | go_keep)
                            (first |
                              (go_at_call 54; (with_reducible refine (HC3.out _ _ _ _ _ _ HOc.out hr5 HPQ.out).mono ?_); rintro _ w3 ⟨rfl, hb3⟩; have hw := bl2 hw hb3; have ga := ga.below hb3 ga.lt; have gt := gt.below hb3 gt.lt; (have z0 := ga.cell 0; have z1 := ga.cell 1; have z2 := ga.cell 2; have z3 := ga.cell 3; have z4 := ga.cell 4; have z5 := ga.cell 5; have z6 := ga.cell 6; have z7 := ga.cell 7; have z8 := ga.cell 8; have z9 := ga.cell 9; have z10 := ga.cell 10; simp at z0 z1 z2 z3 z4 z5 z6 z7 z8 z9 z10; have u0 := gt.cell 0; have u1 := gt.cell 1; simp at u0 u1)) |
                              (refine step_append_lies _ (by rfl) _ _ _ (by rfl) w.heap.size 83 i1 (.agg #[.slice none 0 0, .bool false]) 2 32 uRulesL hi1 iy0 iy1 iy2 rfl (by omega) (.slice A3 l3.length q3) l3.length (flat DRl.cells l3) (by rfl) (own_step0 HO3.out (by (repeat (first | exact Below.refl _ _ | assumption | (refine Below.alloc ?_ (by first | omega | (simp; omega) | (simp; done)) _) | (refine Below.setCell ?_ (by first | omega | (simp; omega) | (simp; done)) _) | (refine Below.drew ?_) | (refine belowN ?_ _) | (refine Below.trans ?_ (Below.mono ‹Below _ _ _› (by first | omega | (simp; omega) | (simp; done)))))))) _ 1 1 [.slice none 0 0, .bool true] (by rfl) (by rfl) (by first | exact World.news_of_block (cs := #[.slice none 0 0, .bool true]) (t := 83) (fr := (0, 0)) (heap_alloc_new _ _) | exact World.news_of_block (cs := #[.slice none 0 0, .bool true]) (t := 83) (fr := (0, 0)) hN) (by simp [Value.oneCell']) (by omega) (by unfold maxLen; omega) (by omega) (by have := gt.lt; simp; omega) _ rfl ?_; intro gg cap5 w5 hown5 hgrow _ _; have hr5 : RlsAt w5 w5.heap.size (some ⟨gg, 0, none⟩) (l3 ++ [lastR true]) := append_rls (own_step0 HO3.out (by (repeat (first | exact Below.refl _ _ | assumption | (refine Below.alloc ?_ (by first | omega | (simp; omega) | (simp; done)) _) | (refine Below.setCell ?_ (by first | omega | (simp; omega) | (simp; done)) _) | (refine Below.drew ?_) | (refine belowN ?_ _) | (refine Below.trans ?_ (Below.mono ‹Below _ _ _› (by first | omega | (simp; omega) | (simp; done)))))))) (fun r hr => (HQc.out.below (by (repeat (first | exact Below.refl _ _ | assumption | (refine Below.alloc ?_ (by first | omega | (simp; omega) | (simp; done)) _) | (refine Below.setCell ?_ (by first | omega | (simp; omega) | (simp; done)) _) | (refine Below.drew ?_) | (refine belowN ?_ _) | (refine Below.trans ?_ (Below.mono ‹Below _ _ _› (by first | omega | (simp; omega) | (simp; done)))))))).rul r hr) hown5 hgrow (by omega); (try (have HOc : Hid (w5.ownsRow 0 55 2 (.slice A1 l.length q1) l.length (flat Cyc.cells l)) := (own_step0 HOc.out (by (repeat (first | exact Below.refl _ _ | assumption | (refine Below.alloc ?_ (by first | omega | (simp; omega) | (simp; done)) _) | (refine Below.setCell ?_ (by first | omega | (simp; omega) | (simp; done)) _) | (refine Below.drew ?_) | (refine belowN ?_ _) | (refine Below.trans ?_ (Below.mono ‹Below _ _ _› (by first | omega | (simp; omega) | (simp; done)))))))).kept hgrow (ownsRow_apart (own_step0 HOc.out (by (repeat (first | exact Below.refl _ _ | assumption | (refine Below.alloc ?_ (by first | omega | (simp; omega) | (simp; done)) _) | (refine Below.setCell ?_ (by first | omega | (simp; omega) | (simp; done)) _) | (refine Below.drew ?_) | (refine belowN ?_ _) | (refine Below.trans ?_ (Below.mono ‹Below _ _ _› (by first | omega | (simp; omega) | (simp; done)))))))) (own_step0 HO3.out (by (repeat (first | exact Below.refl _ _ | assumption | (refine Below.alloc ?_ (by first | omega | (simp; omega) | (simp; done)) _) | (refine Below.setCell ?_ (by first | omega | (simp; omega) | (simp; done)) _) | (refine Below.drew ?_) | (refine belowN ?_ _) | (refine Below.trans ?_ (Below.mono ‹Below _ _ _› (by first | omega | (simp; omega) | (simp; done)))))))) (by decide)))); have hgb : ∀ q : Nat, (Value.slice A3 l3.length q3).ownBlock = some q → w0.heap.size ≤ q := HGB.out; have hw : Below w.heap.size w w5 := (bl2 hw (by (repeat (first | exact Below.refl _ _ | assumption | (refine Below.alloc ?_ (by first | omega | (simp; omega) | (simp; done)) _) | (refine Below.setCell ?_ (by first | omega | (simp; omega) | (simp; done)) _) | (refine Below.drew ?_) | (refine belowN ?_ _) | (refine Below.trans ?_ (Below.mono ‹Below _ _ _› (by first | omega | (simp; omega) | (simp; done)))))))).grown hgrow (by have := hw.size; simp; omega) (fun q hq => by have := hgb q hq; have := hw00; omega); have ga : Blk w5 w.heap.size #[.slice A l.length c, .int .i64 e, .int .i64 b, .int .i64 u, .int .i64 d, .int .i64 p, .int .i64 f, .int .i64 m, .int .i64 y, .int .i64 s, .int .i64 k] 28 := (ga.step0 (by (repeat (first | exact Below.refl _ _ | assumption | (refine Below.alloc ?_ (by first | omega | (simp; omega) | (simp; done)) _) | (refine Below.setCell ?_ (by first | omega | (simp; omega) | (simp; done)) _) | (refine Below.drew ?_) | (refine belowN ?_ _) | (refine Below.trans ?_ (Below.mono ‹Below _ _ _› (by first | omega | (simp; omega) | (simp; done)))))))).grown hgrow (fun hq => by have := hgb _ hq.symm; have := gt00; omega); have gt : Blk w5 (w.heap.size + 1) #[.int .i64 fr, .int .i64 to_] 36 := (gt.step0 (by (repeat (first | exact Below.refl _ _ | assumption | (refine Below.alloc ?_ (by first | omega | (simp; omega) | (simp; done)) _) | (refine Below.setCell ?_ (by first | omega | (simp; omega) | (simp; done)) _) | (refine Below.drew ?_) | (refine belowN ?_ _) | (refine Below.trans ?_ (Below.mono ‹Below _ _ _› (by first | omega | (simp; omega) | (simp; done)))))))).grown hgrow (fun hq => by have := hgb _ hq.symm; have := gt00; omega); (have z0 := ga.cell 0; have z1 := ga.cell 1; have z2 := ga.cell 2; have z3 := ga.cell 3; have z4 := ga.cell 4; have z5 := ga.cell 5; have z6 := ga.cell 6; have z7 := ga.cell 7; have z8 := ga.cell 8; have z9 := ga.cell 9; have z10 := ga.cell 10; simp at z0 z1 z2 z3 z4 z5 z6 z7 z8 z9 z10; have u0 := gt.cell 0; have u1 := gt.cell 1; simp at u0 u1); clear hown5 hgrow hgb) |
                              (go_at_call 20; (with_reducible refine (HRU.out _ (bl2 hw (by (repeat (first | exact Below.refl _ _ | assumption | (refine Below.alloc ?_ (by first | omega | (simp; omega) | (simp; done)) _) | (refine Below.setCell ?_ (by first | omega | (simp; omega) | (simp; done)) _) | (refine Below.drew ?_) | (refine belowN ?_ _) | (refine Below.trans ?_ (Below.mono ‹Below _ _ _› (by first | omega | (simp; omega) | (simp; done))))))))).mono ?_); rintro _ w2 ⟨A3, q3, l3, rfl, hpl, hown3, hrow3, hb2⟩; have HPQ := Lib.hid hpl; have hl3 : l3.length ≤ 35 := (by rw [len_pl hpl]; omega); have HQc := Lib.hid (rowP_of hown3 hrow3 (by omega)); have HGB : Hid (∀ q : Nat, (Value.slice A3 l3.length q3).ownBlock = some q → w0.heap.size ≤ q) := (fun q hq => Nat.le_trans (by have := hsz0; simp; omega) (hown3.out.lt q hq).1 : ∀ q : Nat, (Value.slice A3 l3.length q3).ownBlock = some q → w0.heap.size ≤ q); have HO3 : Hid (w2.ownsRow w.heap.size 83 2 (.slice A3 l3.length q3) l3.length (flat DRl.cells l3)) := (ownsRow_low hown3.out (by have := hw.size; simp; omega)); (try (have HOc : Hid (w2.ownsRow 0 55 2 (.slice A1 l.length q1) l.length (flat Cyc.cells l)) := own_step HOc.out (by (repeat (first | exact Below.refl _ _ | assumption | (refine Below.alloc ?_ (by first | omega | (simp; omega) | (simp; done)) _) | (refine Below.setCell ?_ (by first | omega | (simp; omega) | (simp; done)) _) | (refine Below.drew ?_) | (refine belowN ?_ _) | (refine Below.trans ?_ (Below.mono ‹Below _ _ _› (by first | omega | (simp; omega) | (simp; done))))))) hb2)); (try (have hN := (hb2.block _ (by have := (Array.getElem?_eq_some_iff.1 hN).1; simp; omega)).trans hN)); (try (have hN : w2.heap[w0.heap.size]? = some (.cells #[.slice none 0 0, .bool true] 83 (0, 0)) := (hb2.block _ (by simp)).trans (heap_alloc_new _ _))); (try (have hN : w2.heap[w1.heap.size]? = some (.cells #[.slice none 0 0, .bool true] 83 (0, 0)) := (hb2.block _ (by simp)).trans (heap_alloc_new _ _))); have ga : Blk w2 w.heap.size #[.slice A l.length c, .int .i64 e, .int .i64 b, .int .i64 u, .int .i64 d, .int .i64 p, .int .i64 f, .int .i64 m, .int .i64 y, .int .i64 s, .int .i64 k] 28 := ga.step (by (repeat (first | exact Below.refl _ _ | assumption | (refine Below.alloc ?_ (by first | omega | (simp; omega) | (simp; done)) _) | (refine Below.setCell ?_ (by first | omega | (simp; omega) | (simp; done)) _) | (refine Below.drew ?_) | (refine belowN ?_ _) | (refine Below.trans ?_ (Below.mono ‹Below _ _ _› (by first | omega | (simp; omega) | (simp; done))))))) hb2; have gt : Blk w2 (w.heap.size + 1) #[.int .i64 fr, .int .i64 to_] 36 := gt.step (by (repeat (first | exact Below.refl _ _ | assumption | (refine Below.alloc ?_ (by first | omega | (simp; omega) | (simp; done)) _) | (refine Below.setCell ?_ (by first | omega | (simp; omega) | (simp; done)) _) | (refine Below.drew ?_) | (refine belowN ?_ _) | (refine Below.trans ?_ (Below.mono ‹Below _ _ _› (by first | omega | (simp; omega) | (simp; done))))))) hb2; have hw : Below w.heap.size w w2 := bl2 (bl2 hw (by (repeat (first | exact Below.refl _ _ | assumption | (refine Below.alloc ?_ (by first | omega | (simp; omega) | (simp; done)) _) | (refine Below.setCell ?_ (by first | omega | (simp; omega) | (simp; done)) _) | (refine Below.drew ?_) | (refine belowN ?_ _) | (refine Below.trans ?_ (Below.mono ‹Below _ _ _› (by first | omega | (simp; omega) | (simp; done)))))))) hb2; (have z0 := ga.cell 0; have z1 := ga.cell 1; have z2 := ga.cell 2; have z3 := ga.cell 3; have z4 := ga.cell 4; have z5 := ga.cell 5; have z6 := ga.cell 6; have z7 := ga.cell 7; have z8 := ga.cell 8; have z9 := ga.cell 9; have z10 := ga.cell 10; simp at z0 z1 z2 z3 z4 z5 z6 z7 z8 z9 z10; have u0 := gt.cell 0; have u1 := gt.cell 1; simp at u0 u1); clear hpl hown3 hrow3 hb2) |
                              (go_at_call 19; (with_reducible refine (HOF.out _ (bl2 hw (by (repeat (first | exact Below.refl _ _ | assumption | (refine Below.alloc ?_ (by first | omega | (simp; omega) | (simp; done)) _) | (refine Below.setCell ?_ (by first | omega | (simp; omega) | (simp; done)) _) | (refine Below.drew ?_) | (refine belowN ?_ _) | (refine Below.trans ?_ (Below.mono ‹Below _ _ _› (by first | omega | (simp; omega) | (simp; done))))))))).mono ?_); rintro _ w1 ⟨A1, q1, rfl, -, -, hb1, hown1⟩; have HOc := Lib.hid (own_mono hown1.out); (try (have HQc : Hid (RowP w1 ⟨A3, q3, l3⟩) := HQc.out.step (by (repeat (first | exact Below.refl _ _ | assumption | (refine Below.alloc ?_ (by first | omega | (simp; omega) | (simp; done)) _) | (refine Below.setCell ?_ (by first | omega | (simp; omega) | (simp; done)) _) | (refine Below.drew ?_) | (refine belowN ?_ _) | (refine Below.trans ?_ (Below.mono ‹Below _ _ _› (by first | omega | (simp; omega) | (simp; done))))))) hb1)); (try (have HO3 : Hid (w1.ownsRow w.heap.size 83 2 (.slice A3 l3.length q3) l3.length (flat DRl.cells l3)) := own_step HO3.out (by (repeat (first | exact Below.refl _ _ | assumption | (refine Below.alloc ?_ (by first | omega | (simp; omega) | (simp; done)) _) | (refine Below.setCell ?_ (by first | omega | (simp; omega) | (simp; done)) _) | (refine Below.drew ?_) | (refine belowN ?_ _) | (refine Below.trans ?_ (Below.mono ‹Below _ _ _› (by first | omega | (simp; omega) | (simp; done))))))) hb1)); (try (have hr5 : RlsAt w1 w1.heap.size (some ⟨gg, 0, none⟩) (l3 ++ [lastR true]) := (hr5.below hb1).more hb1.size)); (try (have hN := (hb1.block _ (by have := (Array.getElem?_eq_some_iff.1 hN).1; simp; omega)).trans hN)); (try (have hN : w1.heap[w0.heap.size]? = some (.cells #[.slice none 0 0, .bool true] 83 (0, 0)) := (hb1.block _ (by simp)).trans (heap_alloc_new _ _))); (try (have hN : w1.heap[w2.heap.size]? = some (.cells #[.slice none 0 0, .bool true] 83 (0, 0)) := (hb1.block _ (by simp)).trans (heap_alloc_new _ _))); have ga : Blk w1 w.heap.size #[.slice A l.length c, .int .i64 e, .int .i64 b, .int .i64 u, .int .i64 d, .int .i64 p, .int .i64 f, .int .i64 m, .int .i64 y, .int .i64 s, .int .i64 k] 28 := ga.step (by (repeat (first | exact Below.refl _ _ | assumption | (refine Below.alloc ?_ (by first | omega | (simp; omega) | (simp; done)) _) | (refine Below.setCell ?_ (by first | omega | (simp; omega) | (simp; done)) _) | (refine Below.drew ?_) | (refine belowN ?_ _) | (refine Below.trans ?_ (Below.mono ‹Below _ _ _› (by first | omega | (simp; omega) | (simp; done))))))) hb1; have gt : Blk w1 (w.heap.size + 1) #[.int .i64 fr, .int .i64 to_] 36 := gt.step (by (repeat (first | exact Below.refl _ _ | assumption | (refine Below.alloc ?_ (by first | omega | (simp; omega) | (simp; done)) _) | (refine Below.setCell ?_ (by first | omega | (simp; omega) | (simp; done)) _) | (refine Below.drew ?_) | (refine belowN ?_ _) | (refine Below.trans ?_ (Below.mono ‹Below _ _ _› (by first | omega | (simp; omega) | (simp; done))))))) hb1; have hw : Below w.heap.size w w1 := bl2 (bl2 hw (by (repeat (first | exact Below.refl _ _ | assumption | (refine Below.alloc ?_ (by first | omega | (simp; omega) | (simp; done)) _) | (refine Below.setCell ?_ (by first | omega | (simp; omega) | (simp; done)) _) | (refine Below.drew ?_) | (refine belowN ?_ _) | (refine Below.trans ?_ (Below.mono ‹Below _ _ _› (by first | omega | (simp; omega) | (simp; done)))))))) hb1; have hsz0 : w0.heap.size ≤ w1.heap.size := (by have := hb1.size; simp at this; omega); (have z0 := ga.cell 0; have z1 := ga.cell 1; have z2 := ga.cell 2; have z3 := ga.cell 3; have z4 := ga.cell 4; have z5 := ga.cell 5; have z6 := ga.cell 6; have z7 := ga.cell 7; have z8 := ga.cell 8; have z9 := ga.cell 9; have z10 := ga.cell 10; simp at z0 z1 z2 z3 z4 z5 z6 z7 z8 z9 z10; have u0 := gt.cell 0; have u1 := gt.cell 1; simp at u0 u1); clear hown1 hb1))
                          all_goals (
                            go_wp2_with fail
                            go_meet
                            exact ⟨rfl, rfl, hw, ga, gt⟩)
                      case rest =>
                        (clear z0 z1 z2 z3 z4 z5 z6 z7 z8 z9 z10 u0 u1)
                        clear ga gt hw HC3 hw00 gt00 hsz0
                        obtain ⟨rfl, rfl, hw, ga, gt⟩ := hcut
                        rename World => W11
                        (have z0 := ga.cell 0; have z1 := ga.cell 1; have z2 := ga.cell 2; have z3 := ga.cell 3; have z4 := ga.cell 4; have z5 := ga.cell 5; have z6 := ga.cell 6; have z7 := ga.cell 7; have z8 := ga.cell 8; have z9 := ga.cell 9; have z10 := ga.cell 10; simp at z0 z1 z2 z3 z4 z5 z6 z7 z8 z9 z10; have u0 := gt.cell 0; have u1 := gt.cell 1; simp at u0 u1)
                        --T r27e
                        go_upto_region 28 with fail
                        have hsz0 : W11.heap.size ≤ W11.heap.size := Nat.le_refl _
                        have hw00 := hw.size
                        have gt00 := gt.lt
                        rename World => w0
                        go_cut [19, 10] (fun a1 a2 wx => a1 = .int .i64 0 ∧ a2 = .int .i64 0 ∧ Below w.heap.size w wx ∧ Blk wx w.heap.size #[.slice A l.length c, .int .i64 e, .int .i64 b, .int .i64 u, .int .i64 d, .int .i64 p, .int .i64 f, .int .i64 m, .int .i64 y, .int .i64 s, .int .i64 k] 28 ∧ Blk wx (w.heap.size + 1) #[.int .i64 fr, .int .i64 to_] 36)
                        case first =>
                          as_aux_lemma =>
                            go_region_held3 (fun W' => W'.cell? ⟨w.heap.size, 0, none⟩ = some (.slice A l.length c) ∧ W'.cell? ⟨w.heap.size, 1, none⟩ = some (.int .i64 e) ∧ W'.cell? ⟨w.heap.size, 2, none⟩ = some (.int .i64 b) ∧ W'.cell? ⟨w.heap.size, 3, none⟩ = some (.int .i64 u) ∧ W'.cell? ⟨w.heap.size, 4, none⟩ = some (.int .i64 d) ∧ W'.cell? ⟨w.heap.size, 5, none⟩ = some (.int .i64 p) ∧ W'.cell? ⟨w.heap.size, 6, none⟩ = some (.int .i64 f) ∧ W'.cell? ⟨w.heap.size, 7, none⟩ = some (.int .i64 m) ∧ W'.cell? ⟨w.heap.size, 8, none⟩ = some (.int .i64 y) ∧ W'.cell? ⟨w.heap.size, 9, none⟩ = some (.int .i64 s) ∧ W'.cell? ⟨w.heap.size, 10, none⟩ = some (.int .i64 k) ∧ W'.cell? ⟨w.heap.size + 1, 0, none⟩ = some (.int .i64 fr) ∧ W'.cell? ⟨w.heap.size + 1, 1, none⟩ = some (.int .i64 to_)) (first | exact ⟨z0, z1, z2, z3, z4, z5, z6, z7, z8, z9, z10, u0, u1⟩ | go_keep)
                              (first |
                                (go_at_call 54; (with_reducible refine (HC4.out _ _ _ _ _ _ HOc.out hr5 HPQ.out).mono ?_); rintro _ w3 ⟨rfl, hb3⟩; have hw := bl2 hw hb3; have ga := ga.below hb3 ga.lt; have gt := gt.below hb3 gt.lt; (have z0 := ga.cell 0; have z1 := ga.cell 1; have z2 := ga.cell 2; have z3 := ga.cell 3; have z4 := ga.cell 4; have z5 := ga.cell 5; have z6 := ga.cell 6; have z7 := ga.cell 7; have z8 := ga.cell 8; have z9 := ga.cell 9; have z10 := ga.cell 10; simp at z0 z1 z2 z3 z4 z5 z6 z7 z8 z9 z10; have u0 := gt.cell 0; have u1 := gt.cell 1; simp at u0 u1)) |
                                (refine step_append_lies _ (by rfl) _ _ _ (by rfl) w.heap.size 83 i1 (.agg #[.slice none 0 0, .bool false]) 2 32 uRulesL hi1 iy0 iy1 iy2 rfl (by omega) (.slice A3 l3.length q3) l3.length (flat DRl.cells l3) (by rfl) (own_step0 HO3.out (by (repeat (first | exact Below.refl _ _ | assumption | (refine Below.alloc ?_ (by first | omega | (simp; omega) | (simp; done)) _) | (refine Below.setCell ?_ (by first | omega | (simp; omega) | (simp; done)) _) | (refine Below.drew ?_) | (refine belowN ?_ _) | (refine Below.trans ?_ (Below.mono ‹Below _ _ _› (by first | omega | (simp; omega) | (simp; done)))))))) _ 1 1 [.slice none 0 0, .bool false] (by rfl) (by rfl) (by first | exact World.news_of_block (cs := #[.slice none 0 0, .bool false]) (t := 83) (fr := (0, 0)) (heap_alloc_new _ _) | exact World.news_of_block (cs := #[.slice none 0 0, .bool false]) (t := 83) (fr := (0, 0)) hN) (by simp [Value.oneCell']) (by omega) (by unfold maxLen; omega) (by omega) (by have := gt.lt; simp; omega) _ rfl ?_; intro gg cap5 w5 hown5 hgrow _ _; have hr5 : RlsAt w5 w5.heap.size (some ⟨gg, 0, none⟩) (l3 ++ [lastR false]) := append_rls (own_step0 HO3.out (by (repeat (first | exact Below.refl _ _ | assumption | (refine Below.alloc ?_ (by first | omega | (simp; omega) | (simp; done)) _) | (refine Below.setCell ?_ (by first | omega | (simp; omega) | (simp; done)) _) | (refine Below.drew ?_) | (refine belowN ?_ _) | (refine Below.trans ?_ (Below.mono ‹Below _ _ _› (by first | omega | (simp; omega) | (simp; done)))))))) (fun r hr => (HQc.out.below (by (repeat (first | exact Below.refl _ _ | assumption | (refine Below.alloc ?_ (by first | omega | (simp; omega) | (simp; done)) _) | (refine Below.setCell ?_ (by first | omega | (simp; omega) | (simp; done)) _) | (refine Below.drew ?_) | (refine belowN ?_ _) | (refine Below.trans ?_ (Below.mono ‹Below _ _ _› (by first | omega | (simp; omega) | (simp; done)))))))).rul r hr) hown5 hgrow (by omega); (try (have HOc : Hid (w5.ownsRow 0 55 2 (.slice A1 l.length q1) l.length (flat Cyc.cells l)) := (own_step0 HOc.out (by (repeat (first | exact Below.refl _ _ | assumption | (refine Below.alloc ?_ (by first | omega | (simp; omega) | (simp; done)) _) | (refine Below.setCell ?_ (by first | omega | (simp; omega) | (simp; done)) _) | (refine Below.drew ?_) | (refine belowN ?_ _) | (refine Below.trans ?_ (Below.mono ‹Below _ _ _› (by first | omega | (simp; omega) | (simp; done)))))))).kept hgrow (ownsRow_apart (own_step0 HOc.out (by (repeat (first | exact Below.refl _ _ | assumption | (refine Below.alloc ?_ (by first | omega | (simp; omega) | (simp; done)) _) | (refine Below.setCell ?_ (by first | omega | (simp; omega) | (simp; done)) _) | (refine Below.drew ?_) | (refine belowN ?_ _) | (refine Below.trans ?_ (Below.mono ‹Below _ _ _› (by first | omega | (simp; omega) | (simp; done)))))))) (own_step0 HO3.out (by (repeat (first | exact Below.refl _ _ | assumption | (refine Below.alloc ?_ (by first | omega | (simp; omega) | (simp; done)) _) | (refine Below.setCell ?_ (by first | omega | (simp; omega) | (simp; done)) _) | (refine Below.drew ?_) | (refine belowN ?_ _) | (refine Below.trans ?_ (Below.mono ‹Below _ _ _› (by first | omega | (simp; omega) | (simp; done)))))))) (by decide)))); have hgb : ∀ q : Nat, (Value.slice A3 l3.length q3).ownBlock = some q → w0.heap.size ≤ q := HGB.out; have hw : Below w.heap.size w w5 := (bl2 hw (by (repeat (first | exact Below.refl _ _ | assumption | (refine Below.alloc ?_ (by first | omega | (simp; omega) | (simp; done)) _) | (refine Below.setCell ?_ (by first | omega | (simp; omega) | (simp; done)) _) | (refine Below.drew ?_) | (refine belowN ?_ _) | (refine Below.trans ?_ (Below.mono ‹Below _ _ _› (by first | omega | (simp; omega) | (simp; done)))))))).grown hgrow (by have := hw.size; simp; omega) (fun q hq => by have := hgb q hq; have := hw00; omega); have ga : Blk w5 w.heap.size #[.slice A l.length c, .int .i64 e, .int .i64 b, .int .i64 u, .int .i64 d, .int .i64 p, .int .i64 f, .int .i64 m, .int .i64 y, .int .i64 s, .int .i64 k] 28 := (ga.step0 (by (repeat (first | exact Below.refl _ _ | assumption | (refine Below.alloc ?_ (by first | omega | (simp; omega) | (simp; done)) _) | (refine Below.setCell ?_ (by first | omega | (simp; omega) | (simp; done)) _) | (refine Below.drew ?_) | (refine belowN ?_ _) | (refine Below.trans ?_ (Below.mono ‹Below _ _ _› (by first | omega | (simp; omega) | (simp; done)))))))).grown hgrow (fun hq => by have := hgb _ hq.symm; have := gt00; omega); have gt : Blk w5 (w.heap.size + 1) #[.int .i64 fr, .int .i64 to_] 36 := (gt.step0 (by (repeat (first | exact Below.refl _ _ | assumption | (refine Below.alloc ?_ (by first | omega | (simp; omega) | (simp; done)) _) | (refine Below.setCell ?_ (by first | omega | (simp; omega) | (simp; done)) _) | (refine Below.drew ?_) | (refine belowN ?_ _) | (refine Below.trans ?_ (Below.mono ‹Below _ _ _› (by first | omega | (simp; omega) | (simp; done)))))))).grown hgrow (fun hq => by have := hgb _ hq.symm; have := gt00; omega); (have z0 := ga.cell 0; have z1 := ga.cell 1; have z2 := ga.cell 2; have z3 := ga.cell 3; have z4 := ga.cell 4; have z5 := ga.cell 5; have z6 := ga.cell 6; have z7 := ga.cell 7; have z8 := ga.cell 8; have z9 := ga.cell 9; have z10 := ga.cell 10; simp at z0 z1 z2 z3 z4 z5 z6 z7 z8 z9 z10; have u0 := gt.cell 0; have u1 := gt.cell 1; simp at u0 u1); clear hown5 hgrow hgb) |
                                (go_at_call 20; (with_reducible refine (HRU.out _ (bl2 hw (by (repeat (first | exact Below.refl _ _ | assumption | (refine Below.alloc ?_ (by first | omega | (simp; omega) | (simp; done)) _) | (refine Below.setCell ?_ (by first | omega | (simp; omega) | (simp; done)) _) | (refine Below.drew ?_) | (refine belowN ?_ _) | (refine Below.trans ?_ (Below.mono ‹Below _ _ _› (by first | omega | (simp; omega) | (simp; done))))))))).mono ?_); rintro _ w2 ⟨A3, q3, l3, rfl, hpl, hown3, hrow3, hb2⟩; have HPQ := Lib.hid hpl; have hl3 : l3.length ≤ 35 := (by rw [len_pl hpl]; omega); have HQc := Lib.hid (rowP_of hown3 hrow3 (by omega)); have HGB : Hid (∀ q : Nat, (Value.slice A3 l3.length q3).ownBlock = some q → w0.heap.size ≤ q) := (fun q hq => Nat.le_trans (by have := hsz0; simp; omega) (hown3.out.lt q hq).1 : ∀ q : Nat, (Value.slice A3 l3.length q3).ownBlock = some q → w0.heap.size ≤ q); have HO3 : Hid (w2.ownsRow w.heap.size 83 2 (.slice A3 l3.length q3) l3.length (flat DRl.cells l3)) := (ownsRow_low hown3.out (by have := hw.size; simp; omega)); (try (have HOc : Hid (w2.ownsRow 0 55 2 (.slice A1 l.length q1) l.length (flat Cyc.cells l)) := own_step HOc.out (by (repeat (first | exact Below.refl _ _ | assumption | (refine Below.alloc ?_ (by first | omega | (simp; omega) | (simp; done)) _) | (refine Below.setCell ?_ (by first | omega | (simp; omega) | (simp; done)) _) | (refine Below.drew ?_) | (refine belowN ?_ _) | (refine Below.trans ?_ (Below.mono ‹Below _ _ _› (by first | omega | (simp; omega) | (simp; done))))))) hb2)); (try (have hN := (hb2.block _ (by have := (Array.getElem?_eq_some_iff.1 hN).1; simp; omega)).trans hN)); (try (have hN : w2.heap[w0.heap.size]? = some (.cells #[.slice none 0 0, .bool false] 83 (0, 0)) := (hb2.block _ (by simp)).trans (heap_alloc_new _ _))); (try (have hN : w2.heap[w1.heap.size]? = some (.cells #[.slice none 0 0, .bool false] 83 (0, 0)) := (hb2.block _ (by simp)).trans (heap_alloc_new _ _))); have ga : Blk w2 w.heap.size #[.slice A l.length c, .int .i64 e, .int .i64 b, .int .i64 u, .int .i64 d, .int .i64 p, .int .i64 f, .int .i64 m, .int .i64 y, .int .i64 s, .int .i64 k] 28 := ga.step (by (repeat (first | exact Below.refl _ _ | assumption | (refine Below.alloc ?_ (by first | omega | (simp; omega) | (simp; done)) _) | (refine Below.setCell ?_ (by first | omega | (simp; omega) | (simp; done)) _) | (refine Below.drew ?_) | (refine belowN ?_ _) | (refine Below.trans ?_ (Below.mono ‹Below _ _ _› (by first | omega | (simp; omega) | (simp; done))))))) hb2; have gt : Blk w2 (w.heap.size + 1) #[.int .i64 fr, .int .i64 to_] 36 := gt.step (by (repeat (first | exact Below.refl _ _ | assumption | (refine Below.alloc ?_ (by first | omega | (simp; omega) | (simp; done)) _) | (refine Below.setCell ?_ (by first | omega | (simp; omega) | (simp; done)) _) | (refine Below.drew ?_) | (refine belowN ?_ _) | (refine Below.trans ?_ (Below.mono ‹Below _ _ _› (by first | omega | (simp; omega) | (simp; done))))))) hb2; have hw : Below w.heap.size w w2 := bl2 (bl2 hw (by (repeat (first | exact Below.refl _ _ | assumption | (refine Below.alloc ?_ (by first | omega | (simp; omega) | (simp; done)) _) | (refine Below.setCell ?_ (by first | omega | (simp; omega) | (simp; done)) _) | (refine Below.drew ?_) | (refine belowN ?_ _) | (refine Below.trans ?_ (Below.mono ‹Below _ _ _› (by first | omega | (simp; omega) | (simp; done)))))))) hb2; (have z0 := ga.cell 0; have z1 := ga.cell 1; have z2 := ga.cell 2; have z3 := ga.cell 3; have z4 := ga.cell 4; have z5 := ga.cell 5; have z6 := ga.cell 6; have z7 := ga.cell 7; have z8 := ga.cell 8; have z9 := ga.cell 9; have z10 := ga.cell 10; simp at z0 z1 z2 z3 z4 z5 z6 z7 z8 z9 z10; have u0 := gt.cell 0; have u1 := gt.cell 1; simp at u0 u1); clear hpl hown3 hrow3 hb2) |
                                (go_at_call 19; (with_reducible refine (HOF.out _ (bl2 hw (by (repeat (first | exact Below.refl _ _ | assumption | (refine Below.alloc ?_ (by first | omega | (simp; omega) | (simp; done)) _) | (refine Below.setCell ?_ (by first | omega | (simp; omega) | (simp; done)) _) | (refine Below.drew ?_) | (refine belowN ?_ _) | (refine Below.trans ?_ (Below.mono ‹Below _ _ _› (by first | omega | (simp; omega) | (simp; done))))))))).mono ?_); rintro _ w1 ⟨A1, q1, rfl, -, -, hb1, hown1⟩; have HOc := Lib.hid (own_mono hown1.out); (try (have HQc : Hid (RowP w1 ⟨A3, q3, l3⟩) := HQc.out.step (by (repeat (first | exact Below.refl _ _ | assumption | (refine Below.alloc ?_ (by first | omega | (simp; omega) | (simp; done)) _) | (refine Below.setCell ?_ (by first | omega | (simp; omega) | (simp; done)) _) | (refine Below.drew ?_) | (refine belowN ?_ _) | (refine Below.trans ?_ (Below.mono ‹Below _ _ _› (by first | omega | (simp; omega) | (simp; done))))))) hb1)); (try (have HO3 : Hid (w1.ownsRow w.heap.size 83 2 (.slice A3 l3.length q3) l3.length (flat DRl.cells l3)) := own_step HO3.out (by (repeat (first | exact Below.refl _ _ | assumption | (refine Below.alloc ?_ (by first | omega | (simp; omega) | (simp; done)) _) | (refine Below.setCell ?_ (by first | omega | (simp; omega) | (simp; done)) _) | (refine Below.drew ?_) | (refine belowN ?_ _) | (refine Below.trans ?_ (Below.mono ‹Below _ _ _› (by first | omega | (simp; omega) | (simp; done))))))) hb1)); (try (have hr5 : RlsAt w1 w1.heap.size (some ⟨gg, 0, none⟩) (l3 ++ [lastR false]) := (hr5.below hb1).more hb1.size)); (try (have hN := (hb1.block _ (by have := (Array.getElem?_eq_some_iff.1 hN).1; simp; omega)).trans hN)); (try (have hN : w1.heap[w0.heap.size]? = some (.cells #[.slice none 0 0, .bool false] 83 (0, 0)) := (hb1.block _ (by simp)).trans (heap_alloc_new _ _))); (try (have hN : w1.heap[w2.heap.size]? = some (.cells #[.slice none 0 0, .bool false] 83 (0, 0)) := (hb1.block _ (by simp)).trans (heap_alloc_new _ _))); have ga : Blk w1 w.heap.size #[.slice A l.length c, .int .i64 e, .int .i64 b, .int .i64 u, .int .i64 d, .int .i64 p, .int .i64 f, .int .i64 m, .int .i64 y, .int .i64 s, .int .i64 k] 28 := ga.step (by (repeat (first | exact Below.refl _ _ | assumption | (refine Below.alloc ?_ (by first | omega | (simp; omega) | (simp; done)) _) | (refine Below.setCell ?_ (by first | omega | (simp; omega) | (simp; done)) _) | (refine Below.drew ?_) | (refine belowN ?_ _) | (refine Below.trans ?_ (Below.mono ‹Below _ _ _› (by first | omega | (simp; omega) | (simp; done))))))) hb1; have gt : Blk w1 (w.heap.size + 1) #[.int .i64 fr, .int .i64 to_] 36 := gt.step (by (repeat (first | exact Below.refl _ _ | assumption | (refine Below.alloc ?_ (by first | omega | (simp; omega) | (simp; done)) _) | (refine Below.setCell ?_ (by first | omega | (simp; omega) | (simp; done)) _) | (refine Below.drew ?_) | (refine belowN ?_ _) | (refine Below.trans ?_ (Below.mono ‹Below _ _ _› (by first | omega | (simp; omega) | (simp; done))))))) hb1; have hw : Below w.heap.size w w1 := bl2 (bl2 hw (by (repeat (first | exact Below.refl _ _ | assumption | (refine Below.alloc ?_ (by first | omega | (simp; omega) | (simp; done)) _) | (refine Below.setCell ?_ (by first | omega | (simp; omega) | (simp; done)) _) | (refine Below.drew ?_) | (refine belowN ?_ _) | (refine Below.trans ?_ (Below.mono ‹Below _ _ _› (by first | omega | (simp; omega) | (simp; done)))))))) hb1; have hsz0 : w0.heap.size ≤ w1.heap.size := (by have := hb1.size; simp at this; omega); (have z0 := ga.cell 0; have z1 := ga.cell 1; have z2 := ga.cell 2; have z3 := ga.cell 3; have z4 := ga.cell 4; have z5 := ga.cell 5; have z6 := ga.cell 6; have z7 := ga.cell 7; have z8 := ga.cell 8; have z9 := ga.cell 9; have z10 := ga.cell 10; simp at z0 z1 z2 z3 z4 z5 z6 z7 z8 z9 z10; have u0 := gt.cell 0; have u1 := gt.cell 1; simp at u0 u1); clear hown1 hb1))
                            all_goals (
                              go_wp2_with fail
                              go_meet
                              exact ⟨rfl, rfl, hw, ga, gt⟩)
                        case rest =>
                          (clear z0 z1 z2 z3 z4 z5 z6 z7 z8 z9 z10 u0 u1)
                          clear ga gt hw HC4 hw00 gt00 hsz0
                          obtain ⟨rfl, rfl, hw, ga, gt⟩ := hcut
                          rename World => W12
                          (have z0 := ga.cell 0; have z1 := ga.cell 1; have z2 := ga.cell 2; have z3 := ga.cell 3; have z4 := ga.cell 4; have z5 := ga.cell 5; have z6 := ga.cell 6; have z7 := ga.cell 7; have z8 := ga.cell 8; have z9 := ga.cell 9; have z10 := ga.cell 10; simp at z0 z1 z2 z3 z4 z5 z6 z7 z8 z9 z10; have u0 := gt.cell 0; have u1 := gt.cell 1; simp at u0 u1)
                          have v1 : IntKind.i64.wrap (to_ - fr) = to_ - fr := IntWalk.i64_in _ ⟨by omega, by omega⟩
                          have v2 : IntKind.i64.wrap (to_ - fr + 1) = to_ - fr + 1 := IntWalk.i64_in _ ⟨by omega, by omega⟩
                          go_wp2_with (go_at_call 17; refine (known_any _).mono ?_; rintro _ V1 ⟨rfl, hb1⟩; have hw := bl2 hw hb1)
                          refine bodyPost_ret (v := .bool true) (by simp [results, Try.results10, go_sem]) rfl ?_
                          exact ⟨rfl, hw⟩
          --D>
end Go.Proofs.Ytfbnllmmoaialaa

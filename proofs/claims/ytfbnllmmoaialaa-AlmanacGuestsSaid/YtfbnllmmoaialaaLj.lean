/- almanac: the law AlmanacGuests returns true. -/
import Derived.Test.YtfbnllmmoaialaaZ30LkM
namespace Go.Proofs.Ytfbnllmmoaialaa
open Go.RowKit

set_option maxRecDepth 100000 in
set_option maxHeartbeats 16000000 in
theorem lwguests_any (x : Alm) (A2 : Option Addr) (c2 : Nat) (ps : List DPs) (fr to_ : Int) (w : World) (hz : x.a = none → x.c = 0) (hcx : Sl Cyc.cells 2 w w.heap.size x.a x.cycles) (hr : PsW w w.heap.size A2 ps) (h1 : 1 ≤ ps.length) (h9 : ps.length ≤ 9) :
    Calls Try.prog 12 #[.agg x.cells.toArray, .slice A2 ps.length c2, .agg #[.int .i64 fr, .int .i64 to_]] w fun en w' => en = .returned (.bool true) ∧ Below w.heap.size w w' := by
  have HLG := Lib.hid (fun p (hp : p ∈ ps) W (hW : Below w.heap.size w W) => large_any x p.a p.c p.rules W (((hr.rul p hp).1.below hW).more hW.size))
  have HRL := Lib.hid (fun p (hp : p ∈ ps) (hg : largeB x p.rules = false) W (hW : Below w.heap.size w W) => by
    obtain ⟨h1, h2, h3⟩ := not_large hg
    have hri : RlsIn w p.a p.rules := ⟨(hr.rul p hp).1.at_ (by omega) (fun r h => by have := h3 r h; omega), fun r h => ((hr.rul p hp).1.rul r h).nil⟩
    exact rules_any p.a p.c p.rules W ((hri.at_.below hW).more hW.size) hri.nil (by omega))
  have HOW := Lib.hid (fun (hlx : x.cycles.length ≤ 1000000) W (hW : Below w.heap.size w W) => ownF_any x W hz hlx ((hcx.below hW).more hW.size))
  obtain ⟨rb, ro, rfl, hrb, hrc⟩ := persons_cell hr.sl (by omega)
  have q1 : decide ((ps.length : Int) < 1) = false := by simp; omega
  have q2 : decide ((9 : Int) < (ps.length : Int)) = false := by simp; omega
  obtain ⟨i0, hi, iz0, iz1, iz2⟩ := info_parts infoRls
  have HRC := Lib.hid hrc
  obtain ⟨⟨n, E⟩, hR⟩ : ∃ z, comR x ps fr to_ = z := ⟨_, rfl⟩
  have HRR := Lib.hid hR
  obtain ⟨X, hX⟩ : ∃ X, X = x := ⟨_, rfl⟩
  have HXX := Lib.hid hX
  clear hr hcx hrc hR hz hX
  obtain ⟨A, c, l, ⟨e, b, u⟩, ⟨d, p, f, m, y, s, k⟩⟩ := x
  rw [← HXX.out] at HRL HRR
  have HLG2 : Hid (∀ q ∈ ps, ∀ W, Below w.heap.size w W → Calls Try.prog 15 #[.agg (Alm.cells ⟨A, c, l, ⟨e, b, u⟩, ⟨d, p, f, m, y, s, k⟩⟩).toArray, .slice q.a q.rules.length q.c] W fun e w' => e = .returned (.bool (largeB X q.rules)) ∧ Below W.heap.size W w') := (by rw [HXX.out]; exact HLG.out : ∀ q ∈ ps, ∀ W, Below w.heap.size w W → Calls Try.prog 15 #[.agg (Alm.cells ⟨A, c, l, ⟨e, b, u⟩, ⟨d, p, f, m, y, s, k⟩⟩).toArray, .slice q.a q.rules.length q.c] W fun e w' => e = .returned (.bool (largeB X q.rules)) ∧ Below W.heap.size W w')
  simp only [Alm.cells] at HLG2 HOW ⊢
  clear HLG
  go_enter Try.func12, Try.ntmps12
  go_upto_region 1 with fail
  refine gen_w (fun W => Blk W w.heap.size #[.slice A l.length c, .int .i64 e, .int .i64 b, .int .i64 u, .int .i64 d, .int .i64 p, .int .i64 f, .int .i64 m, .int .i64 y, .int .i64 s, .int .i64 k] 28 ∧ Blk W (w.heap.size + 1) #[.int .i64 fr, .int .i64 to_] 36 ∧ Below w.heap.size w W) ⟨(Blk.at_ rfl).alloc _, Blk.at_ (by simp), by (repeat (first | exact Below.refl _ _ | assumption | (refine Below.alloc ?_ (by first | omega | (simp; omega) | (simp; done)) _) | (refine Below.setCell ?_ (by first | omega | (simp; omega) | (simp; done)) _) | (refine Below.drew ?_) | (refine belowN ?_ _) | (refine Below.trans ?_ (Below.mono ‹Below _ _ _› (by first | omega | (simp; omega) | (simp; done))))))⟩ ?_
  rintro V0 ⟨ga, gt, hw⟩
  (have z0 := ga.cell 0; have z1 := ga.cell 1; have z2 := ga.cell 2; have z3 := ga.cell 3; have z4 := ga.cell 4; have z5 := ga.cell 5; have z6 := ga.cell 6; have z7 := ga.cell 7; have z8 := ga.cell 8; have z9 := ga.cell 9; have z10 := ga.cell 10; simp at z0 z1 z2 z3 z4 z5 z6 z7 z8 z9 z10; have u0 := gt.cell 0; have u1 := gt.cell 1; simp at u0 u1)
  have hV0 := gt.lt
  (clear z0 z1 z2 z3 z4 z5 z6 z7 z8 z9 z10 u0 u1)
  go_wp2_with fail
  have HW0 := Lib.hid hw; have HGA0 := Lib.hid ga; have HGT0 := Lib.hid gt
  clear hw ga gt
  go_loopw [7, 8] (fun v i wr => ∃ (j : Nat) (l' : List DPs), j ≤ ps.length ∧ i = .int .i64 (j : Int) ∧ Hid (PsO wr (w.heap.size + 2) v l') ∧ Hid (l'.map DPs.pl = (ps.take j).map DPs.pl) ∧ Hid (∀ q ∈ ps.take j, largeB X q.rules = false) ∧ Hid (Below w.heap.size w wr) ∧ Hid (Blk wr w.heap.size #[.slice A l.length c, .int .i64 e, .int .i64 b, .int .i64 u, .int .i64 d, .int .i64 p, .int .i64 f, .int .i64 m, .int .i64 y, .int .i64 s, .int .i64 k] 28) ∧ Hid (Blk wr (w.heap.size + 1) #[.int .i64 fr, .int .i64 to_] 36)) (fun _ i _ => ps.length - (intOf i).toNat)
  case atStart =>
    refine ⟨0, [], by omega, rfl, ⟨?_, fun q hq => by cases hq⟩, rfl, fun q hq => by simp at hq, HW0.out.alloc HW0.out.size _, HGA0.out.alloc _, HGT0.out.alloc _⟩
    exact World.ownsRow_made (e := 29) (size := 1) V0 #[] 0 (base := w.heap.size + 2) (by omega) (by simp) (by simp)
  case round =>
    clear HW0 HGA0 HGT0 hV0
    obtain ⟨j, l', hj, rfl, HPO, HPL, HNL, hbw, hga, hgt⟩ := hrel
    have hw := hbw.out; have ga := hga.out; have gt := hgt.out
    clear hbw hga hgt
    (have z0 := ga.cell 0; have z1 := ga.cell 1; have z2 := ga.cell 2; have z3 := ga.cell 3; have z4 := ga.cell 4; have z5 := ga.cell 5; have z6 := ga.cell 6; have z7 := ga.cell 7; have z8 := ga.cell 8; have z9 := ga.cell 9; have z10 := ga.cell 10; simp at z0 z1 z2 z3 z4 z5 z6 z7 z8 z9 z10; have u0 := gt.cell 0; have u1 := gt.cell 1; simp at u0 u1)
    by_cases hlt : j < ps.length
    · --D<rnd
      have t1 : decide ((j : Int) < (ps.length : Int)) = true := decide_eq_true (by omega)
      have HTK := Lib.hid (List.take_succ_eq_append_getElem hlt)
      have HLQ := Lib.hid (HLG2.out _ (List.getElem_mem hlt))
      have HRU0 := Lib.hid (HRL.out _ (List.getElem_mem hlt))
      have r0 := (hw.cell (p := ⟨rb, ro + j, none⟩) hrb).trans (HRC.out j hlt)
      have hll : l'.length ≤ 9 := by
        have := pl_len HPL.out
        rw [List.length_take] at this
        omega
      obtain ⟨q, hq⟩ : ∃ q, q = ps[j] := ⟨_, rfl⟩
      rw [← hq] at HLQ HRU0 r0 HTK
      obtain ⟨pa, pc, rs⟩ := q
      simp only at HLQ HRU0 r0
      obtain ⟨lg, hlg⟩ : ∃ v, v = largeB X rs := ⟨_, rfl⟩
      rw [← hlg] at HLQ HRU0
      have HLV := Lib.hid hlg
      have HLW := Lib.hid (fun W (hW : Below wr.heap.size wr W) => HLQ.out W (bl2 hw hW))
      have j0 : (0 : Int) ≤ (j : Int) := by omega
      have j1 : (j : Int) < (ps.length : Int) := by omega
      have hrbw : rb < wr.heap.size := by have := hw.size; omega
      clear hq hlg HLQ
      go_upto_region 7 with fail
      (refine wp_region_ext (by kernel_rfl) (by kernel_rfl) ?_; (repeat (go_big_quiet_step((go_at_call 15; with_reducible exact Calls.ext_of (HLW.out _ (ext_below ⟨_, rfl⟩)))))); with_reducible refine wpQuiet_nil ?_; intro w1 hw1; have hb1 := ext_below hw1; clear hw1)
      have r0 := (hb1.cell (p := ⟨rb, ro + j, none⟩) hrbw).trans r0
      have hw := bl2 hw hb1
      have ga := ga.below hb1 ga.lt
      have gt := gt.below hb1 gt.lt
      have HPO := Lib.hid (HPO.out.below hb1)
      clear hb1 HLW
      (clear z0 z1 z2 z3 z4 z5 z6 z7 z8 z9 z10 u0 u1)
      cases lg with
      | true =>
        go_wp2_with (go_at_call 17; refine (known_any _).mono ?_; rintro _ V1 ⟨rfl, hb1⟩; have hw := bl2 hw hb1)
        refine bodyPost_ret (v := .bool true) (by simp [results, Try.results12, go_sem]) rfl ?_
        exact ⟨rfl, hw⟩
      | false =>
        have HLE : Hid (rs.length ≤ 35) := ((not_large HLV.out.symm).1 : rs.length ≤ 35)
        have hl35 := HLE.out
        have HRU := Lib.hid (HRU0.out rfl)
        go_wp2_with (first | (go_at_call 20; (with_reducible refine (HRU.out _ hw).mono ?_); rintro _ w2 ⟨A3, q3, l3, rfl, hpl, hown3, hrow3, hb2⟩; have HPQ := Lib.hid hpl; have HLQ3 : Hid (l3.length ≤ 1000000) := (by rw [len_pl hpl]; omega : l3.length ≤ 1000000); have HRQ := Lib.hid (rowP_of hown3 hrow3 HLQ3.out); have HO1 := Lib.hid (HPO.out.below hb2); have HB1 := Lib.hid (bl2 hw hb2); have HG1 := Lib.hid (ga.below hb2 ga.lt); have HT1 := Lib.hid (gt.below hb2 gt.lt); clear hpl hown3 hrow3 hb2) | (at_builtin; refine wpList_append_own _ rfl _ _ 49 rfl (w.heap.size + 2) 29 i0 (.slice none 0 0) 1 24 uPersons hi iz0 iz1 iz2 rfl (by decide) _ _ _ rfl (HO1.out.own.alloc _) ⟨w2.heap.size, 0, none⟩ 1 1 [.slice A3 l3.length q3] rfl rfl (cell_one_new _ _ _) (by simp [Value.oneCell']) (by unfold maxLen; omega) (by omega) (by have := HT1.out.lt; simp; omega) ?_; intro v' w5 hown2 hgrow _; refine Hid.out ?_; have HO2 : Hid (PsO w5 (w.heap.size + 2) v' (l' ++ [⟨A3, q3, l3⟩])) := (HO1.out.below ((Below.refl _ _).alloc (Nat.le_refl _) _)).append (HRQ.out.below ((Below.refl _ _).alloc (Nat.le_refl _) _)) hown2 hgrow; have HB2 : Hid (Below w.heap.size w w5) := (HB1.out.alloc HB1.out.size _).grown hgrow (by have := HB1.out.size; simp; omega) (fun g hg => by have := (HO1.out.own.lt g hg).1; omega); have HG2 : Hid (Blk w5 w.heap.size #[.slice A l.length c, .int .i64 e, .int .i64 b, .int .i64 u, .int .i64 d, .int .i64 p, .int .i64 f, .int .i64 m, .int .i64 y, .int .i64 s, .int .i64 k] 28) := (HG1.out.alloc _).grown hgrow (fun hg => by have := (HO1.out.own.lt _ hg.symm).1; omega); have HT2 : Hid (Blk w5 (w.heap.size + 1) #[.int .i64 fr, .int .i64 to_] 36) := (HT1.out.alloc _).grown hgrow (fun hg => by have := (HO1.out.own.lt _ hg.symm).1; omega); clear hown2 hgrow; refine Lib.hid ?_))
        go_roundw
        case rel =>
          refine ⟨j + 1, l' ++ [⟨A3, q3, l3⟩], by omega, by go_num, HO2, ?_, ?_, HB2, HG2, HT2⟩
          · show _ = _
            rw [HTK.out, List.map_append, List.map_append, HPL.out]
            show _ ++ [l3.map DRl.pl] = _ ++ [rs.map DRl.pl]
            rw [HPQ.out]
          · show ∀ q ∈ _, _
            rw [HTK.out]
            intro q hq
            rcases List.mem_append.1 hq with hq | hq
            · exact HNL.out q hq
            · rw [List.mem_singleton.1 hq]; exact HLV.out.symm
        case measure => simp [intOf]; omega
      --D>
    · --D<end
      obtain rfl : j = ps.length := by omega
      have HNA : Hid (∀ q ∈ ps, largeB X q.rules = false) := (by have h := HNL.out; rw [List.take_length] at h; exact h : ∀ q ∈ ps, largeB X q.rules = false)
      have HPA : Hid (l'.map DPs.pl = ps.map DPs.pl) := (by have h := HPL.out; rw [List.take_length] at h; exact h : l'.map DPs.pl = ps.map DPs.pl)
      have hll := pl_len HPA.out
      have hlx : l.length ≤ 10 := by
        have h := (not_large (HNA.out ps[0] (List.getElem_mem (by omega)))).2.1
        rw [HXX.out] at h
        exact h
      have hlx2 : l.length ≤ 1000000 := by omega
      obtain ⟨g, cap, rfl, hcap, hg0, hg1⟩ := HPO.out.cap (by omega)
      have HOW := Lib.hid (HOW.out hlx2)
      have HLL := Lib.hid hll
      have hlp : 1 ≤ l'.length := by omega
      have hlq : l'.length ≤ 9 := by omega
      have hnp : 1 ≤ ps.length := h1
      clear HPL HNL hll HLG2 hlx hlt HLL
      have HBA := Lib.hid hg0
      clear hg0
      go_upto_region 10 with fail
      have HCM := Lib.hid (fun A' c' W (hs : Sl Cyc.cells 2 W W.heap.size A' X.cycles) (hW : Below wr.heap.size wr W) => commonV HRR.out (by rw [HXX.out]; exact hlx2) A' c' (some ⟨g, 0, none⟩) cap l'.length l' W hs ((HPO.out.below hW).psA (by omega)) HPA.out rfl)
      rw [HXX.out] at HCM
      simp only [Alm.cells] at HCM
      --T c10
      rename World => w0
      go_cut [9, 10] (fun a b wx => a = .int .i64 n ∧ b = .int .i64 E ∧ Below w0.heap.size w0 wx)
      case first =>
        as_aux_lemma =>
          go_region_held3 (fun W' => W'.cell? ⟨w.heap.size, 0, none⟩ = some (.slice A l.length c) ∧ W'.cell? ⟨w.heap.size, 1, none⟩ = some (.int .i64 e) ∧ W'.cell? ⟨w.heap.size, 2, none⟩ = some (.int .i64 b) ∧ W'.cell? ⟨w.heap.size, 3, none⟩ = some (.int .i64 u) ∧ W'.cell? ⟨w.heap.size, 4, none⟩ = some (.int .i64 d) ∧ W'.cell? ⟨w.heap.size, 5, none⟩ = some (.int .i64 p) ∧ W'.cell? ⟨w.heap.size, 6, none⟩ = some (.int .i64 f) ∧ W'.cell? ⟨w.heap.size, 7, none⟩ = some (.int .i64 m) ∧ W'.cell? ⟨w.heap.size, 8, none⟩ = some (.int .i64 y) ∧ W'.cell? ⟨w.heap.size, 9, none⟩ = some (.int .i64 s) ∧ W'.cell? ⟨w.heap.size, 10, none⟩ = some (.int .i64 k) ∧ W'.cell? ⟨w.heap.size + 1, 0, none⟩ = some (.int .i64 fr) ∧ W'.cell? ⟨w.heap.size + 1, 1, none⟩ = some (.int .i64 to_)) (first | exact ⟨z0, z1, z2, z3, z4, z5, z6, z7, z8, z9, z10, u0, u1⟩ | go_keep) (first | (go_at_call 52; (with_reducible refine (HCM.out _ _ _ hs1 hy1).mono ?_); rintro _ w3 ⟨rfl, hb3⟩; have hy3 : Below w0.heap.size w0 w3 := bl2 hy1 hb3; have ga3 := ga.below hy3 ga.lt; have gt3 := gt.below hy3 gt.lt; (have z0 := ga3.cell 0; have z1 := ga3.cell 1; have z2 := ga3.cell 2; have z3 := ga3.cell 3; have z4 := ga3.cell 4; have z5 := ga3.cell 5; have z6 := ga3.cell 6; have z7 := ga3.cell 7; have z8 := ga3.cell 8; have z9 := ga3.cell 9; have z10 := ga3.cell 10; simp at z0 z1 z2 z3 z4 z5 z6 z7 z8 z9 z10; have u0 := gt3.cell 0; have u1 := gt3.cell 1; simp at u0 u1)) | (go_at_call 19; (with_reducible refine (HOW.out _ (bl2 hw (by (repeat (first | exact Below.refl _ _ | assumption | (refine Below.alloc ?_ (by first | omega | (simp; omega) | (simp; done)) _) | (refine Below.setCell ?_ (by first | omega | (simp; omega) | (simp; done)) _) | (refine Below.drew ?_) | (refine belowN ?_ _) | (refine Below.trans ?_ (Below.mono ‹Below _ _ _› (by first | omega | (simp; omega) | (simp; done))))))))).mono ?_); rintro _ w1 ⟨A1, q1, rfl, hs1, -, hb1, -⟩; have hy1 : Below w0.heap.size w0 w1 := Below.trans (by (repeat (first | exact Below.refl _ _ | assumption | (refine Below.alloc ?_ (by first | omega | (simp; omega) | (simp; done)) _) | (refine Below.setCell ?_ (by first | omega | (simp; omega) | (simp; done)) _) | (refine Below.drew ?_) | (refine belowN ?_ _) | (refine Below.trans ?_ (Below.mono ‹Below _ _ _› (by first | omega | (simp; omega) | (simp; done))))))) (hb1.mono (by simp)); have ga1 := ga.below hy1 ga.lt; have gt1 := gt.below hy1 gt.lt; (have z0 := ga1.cell 0; have z1 := ga1.cell 1; have z2 := ga1.cell 2; have z3 := ga1.cell 3; have z4 := ga1.cell 4; have z5 := ga1.cell 5; have z6 := ga1.cell 6; have z7 := ga1.cell 7; have z8 := ga1.cell 8; have z9 := ga1.cell 9; have z10 := ga1.cell 10; simp at z0 z1 z2 z3 z4 z5 z6 z7 z8 z9 z10; have u0 := gt1.cell 0; have u1 := gt1.cell 1; simp at u0 u1)))
          all_goals (
            go_wp2_with fail
            go_meet
            exact ⟨rfl, rfl, hy3⟩)
      case rest =>
        obtain ⟨rfl, rfl, hcx⟩ := hcut
        have HPO := Lib.hid (HPO.out.below hcx)
        rename World => W5
        have ga5 := ga.below hcx ga.lt
        have gt5 := gt.below hcx gt.lt
        have hw5 := bl2 hw hcx
        clear hcx ga gt hw
        (clear z0 z1 z2 z3 z4 z5 z6 z7 z8 z9 z10 u0 u1)
        have ga := ga5
        have gt := gt5
        have hw := hw5
        clear ga5 gt5 hw5
        (have z0 := ga.cell 0; have z1 := ga.cell 1; have z2 := ga.cell 2; have z3 := ga.cell 3; have z4 := ga.cell 4; have z5 := ga.cell 5; have z6 := ga.cell 6; have z7 := ga.cell 7; have z8 := ga.cell 8; have z9 := ga.cell 9; have z10 := ga.cell 10; simp at z0 z1 z2 z3 z4 z5 z6 z7 z8 z9 z10; have u0 := gt.cell 0; have u1 := gt.cell 1; simp at u0 u1)
        clear HCM
        obtain ⟨⟨m2, f2⟩, hR2⟩ : ∃ z, comR X (ps.drop 1) fr to_ = z := ⟨_, rfl⟩
        have HR2 := Lib.hid hR2
        obtain ⟨A4, hA4e, hA4s⟩ := (HPO.out.psA (by omega)).sl.from_ (fun _ => rfl) 1 cap hcap
        have HS := fun W' => (persons_slice (some ⟨g, 0, none⟩) l'.length cap W' hlp).trans (congrArg (fun v => Result.ok v W') hA4e)
        have HA4 := Lib.hid hA4s
        clear hR2 hA4e hA4s
        go_upto_region 11 with fail
        have HCM := Lib.hid (fun A' c' W (hs : Sl Cyc.cells 2 W W.heap.size A' X.cycles) (hW : Below W5.heap.size W5 W) => commonV HR2.out (by rw [HXX.out]; exact hlx2) A' c' A4 (cap - 1) (l'.length - 1) (l'.drop 1) W hs ⟨by simp; omega, (HA4.out.below hW).more hW.size, fun q hq => (((HPO.out.below hW).psA (by omega)).rul q (List.mem_of_mem_drop hq))⟩ (by rw [List.map_drop, List.map_drop, HPA.out]) (by simp))
        rw [HXX.out] at HCM
        simp only [Alm.cells] at HCM
        --T c11
        rename World => w0
        go_cut [11, 12] (fun a b wx => a = .int .i64 m2 ∧ b = .int .i64 f2 ∧ Below w0.heap.size w0 wx)
        case first =>
          as_aux_lemma =>
            go_region_held3 (fun W' => W'.cell? ⟨w.heap.size, 0, none⟩ = some (.slice A l.length c) ∧ W'.cell? ⟨w.heap.size, 1, none⟩ = some (.int .i64 e) ∧ W'.cell? ⟨w.heap.size, 2, none⟩ = some (.int .i64 b) ∧ W'.cell? ⟨w.heap.size, 3, none⟩ = some (.int .i64 u) ∧ W'.cell? ⟨w.heap.size, 4, none⟩ = some (.int .i64 d) ∧ W'.cell? ⟨w.heap.size, 5, none⟩ = some (.int .i64 p) ∧ W'.cell? ⟨w.heap.size, 6, none⟩ = some (.int .i64 f) ∧ W'.cell? ⟨w.heap.size, 7, none⟩ = some (.int .i64 m) ∧ W'.cell? ⟨w.heap.size, 8, none⟩ = some (.int .i64 y) ∧ W'.cell? ⟨w.heap.size, 9, none⟩ = some (.int .i64 s) ∧ W'.cell? ⟨w.heap.size, 10, none⟩ = some (.int .i64 k) ∧ W'.cell? ⟨w.heap.size + 1, 0, none⟩ = some (.int .i64 fr) ∧ W'.cell? ⟨w.heap.size + 1, 1, none⟩ = some (.int .i64 to_)) (first | exact ⟨z0, z1, z2, z3, z4, z5, z6, z7, z8, z9, z10, u0, u1⟩ | go_keep) (first | (go_at_call 52; (with_reducible refine (HCM.out _ _ _ hs1 hy1).mono ?_); rintro _ w3 ⟨rfl, hb3⟩; have hy3 : Below w0.heap.size w0 w3 := bl2 hy1 hb3; have ga3 := ga.below hy3 ga.lt; have gt3 := gt.below hy3 gt.lt; (have z0 := ga3.cell 0; have z1 := ga3.cell 1; have z2 := ga3.cell 2; have z3 := ga3.cell 3; have z4 := ga3.cell 4; have z5 := ga3.cell 5; have z6 := ga3.cell 6; have z7 := ga3.cell 7; have z8 := ga3.cell 8; have z9 := ga3.cell 9; have z10 := ga3.cell 10; simp at z0 z1 z2 z3 z4 z5 z6 z7 z8 z9 z10; have u0 := gt3.cell 0; have u1 := gt3.cell 1; simp at u0 u1)) | (go_at_call 19; (with_reducible refine (HOW.out _ (bl2 hw (by (repeat (first | exact Below.refl _ _ | assumption | (refine Below.alloc ?_ (by first | omega | (simp; omega) | (simp; done)) _) | (refine Below.setCell ?_ (by first | omega | (simp; omega) | (simp; done)) _) | (refine Below.drew ?_) | (refine belowN ?_ _) | (refine Below.trans ?_ (Below.mono ‹Below _ _ _› (by first | omega | (simp; omega) | (simp; done))))))))).mono ?_); rintro _ w1 ⟨A1, q1, rfl, hs1, -, hb1, -⟩; have hy1 : Below w0.heap.size w0 w1 := Below.trans (by (repeat (first | exact Below.refl _ _ | assumption | (refine Below.alloc ?_ (by first | omega | (simp; omega) | (simp; done)) _) | (refine Below.setCell ?_ (by first | omega | (simp; omega) | (simp; done)) _) | (refine Below.drew ?_) | (refine belowN ?_ _) | (refine Below.trans ?_ (Below.mono ‹Below _ _ _› (by first | omega | (simp; omega) | (simp; done))))))) (hb1.mono (by simp)); have ga1 := ga.below hy1 ga.lt; have gt1 := gt.below hy1 gt.lt; (have z0 := ga1.cell 0; have z1 := ga1.cell 1; have z2 := ga1.cell 2; have z3 := ga1.cell 3; have z4 := ga1.cell 4; have z5 := ga1.cell 5; have z6 := ga1.cell 6; have z7 := ga1.cell 7; have z8 := ga1.cell 8; have z9 := ga1.cell 9; have z10 := ga1.cell 10; simp at z0 z1 z2 z3 z4 z5 z6 z7 z8 z9 z10; have u0 := gt1.cell 0; have u1 := gt1.cell 1; simp at u0 u1)))
            all_goals (
              go_wp2_with fail
              go_meet
              exact ⟨rfl, rfl, hy3⟩)
        case rest =>
          obtain ⟨rfl, rfl, hcx⟩ := hcut
          have HPO := Lib.hid (HPO.out.below hcx)
          rename World => W6
          have ga5 := ga.below hcx ga.lt
          have gt5 := gt.below hcx gt.lt
          have hw5 := bl2 hw hcx
          clear hcx ga gt hw
          (clear z0 z1 z2 z3 z4 z5 z6 z7 z8 z9 z10 u0 u1)
          have ga := ga5
          have gt := gt5
          have hw := hw5
          clear ga5 gt5 hw5
          (have z0 := ga.cell 0; have z1 := ga.cell 1; have z2 := ga.cell 2; have z3 := ga.cell 3; have z4 := ga.cell 4; have z5 := ga.cell 5; have z6 := ga.cell 6; have z7 := ga.cell 7; have z8 := ga.cell 8; have z9 := ga.cell 9; have z10 := ga.cell 10; simp at z0 z1 z2 z3 z4 z5 z6 z7 z8 z9 z10; have u0 := gt.cell 0; have u1 := gt.cell 1; simp at u0 u1)
          clear HCM HS HA4
          --T r12
          have h0m : ps[0] ∈ ps := List.getElem_mem (by omega)
          have HR0 := Lib.hid (HRC.out 0 (by omega))
          --T a1
          have hlg0 := HNA.out _ h0m
          have HRU := Lib.hid (HRL.out _ h0m hlg0)
          have hl35 := (not_large hlg0).1
          have HPD : Hid (ps = ps[0] :: ps.drop 1) := (by have h := List.drop_eq_getElem_cons (l := ps) (i := 0) (by omega); rw [List.drop_zero] at h; exact h : ps = ps[0] :: ps.drop 1)
          --T a2
          obtain ⟨q0, hq0⟩ : ∃ q, q = ps[0] := ⟨_, rfl⟩
          rw [← hq0] at HR0 HRU hl35 HPD
          --T a3
          have HTW : Hid (comR X (ps ++ [q0]) fr to_ = (n, E)) := (by
            rw [← HRR.out]
            have h := comR_twice (x := X) (p := q0) (ps := ps.drop 1) (q := q0) rfl fr to_ (by rw [← HPD.out]; exact h9)
            rw [← HPD.out] at h
            exact h : comR X (ps ++ [q0]) fr to_ = (n, E))
          --T a4
          obtain ⟨pa, pc, rs0⟩ := q0
          simp only at HR0 HRU hl35
          rw [Nat.add_zero] at HR0
          clear hq0 hlg0 h0m
          have HCM := Lib.hid (fun (A' : Option Addr) (c' gg cap5 : Nat) (A3 : Option Addr) (q3 : Nat) (l3 : List DRl) (W : World) (ho : W.ownsRow 0 55 2 (.slice A' X.cycles.length c') X.cycles.length (flat Cyc.cells X.cycles)) (hp : PsO W (w.heap.size + 2) (.slice (some ⟨gg, 0, none⟩) (l' ++ [(⟨A3, q3, l3⟩ : DPs)]).length cap5) (l' ++ [⟨A3, q3, l3⟩])) (hq : l3.map DRl.pl = rs0.map DRl.pl) => commonT HTW.out (by rw [HXX.out]; exact hlx2) HPA.out hlq A' c' gg cap5 A3 q3 l3 W _ ho hp hq)
          rw [HXX.out] at HCM
          simp only [Alm.cells] at HCM
          --T a5
          have HPc := HPO
          have hx0 : (0 : Int) < (ps.length : Int) := by omega
          have hx1 : 0 < ps.length := by omega
          go_upto_region 12 with fail
          --T a6
          rename World => w0
          (have r0 := (hw.cell (p := ⟨rb, ro, none⟩) hrb).trans HR0.out)
          clear HPO
          --T a7
          go_cut [13, 14] (fun s13 s14 wx => s13 = .int .i64 n ∧ s14 = .int .i64 E ∧ Below w.heap.size w wx ∧ Blk wx w.heap.size #[.slice A l.length c, .int .i64 e, .int .i64 b, .int .i64 u, .int .i64 d, .int .i64 p, .int .i64 f, .int .i64 m, .int .i64 y, .int .i64 s, .int .i64 k] 28 ∧ Blk wx (w.heap.size + 1) #[.int .i64 fr, .int .i64 to_] 36)
          case first =>
            as_aux_lemma =>
              --T a8
              --D<c12
              go_region_held3 (fun W' => W'.cell? ⟨w.heap.size, 0, none⟩ = some (.slice A l.length c) ∧ W'.cell? ⟨w.heap.size, 1, none⟩ = some (.int .i64 e) ∧ W'.cell? ⟨w.heap.size, 2, none⟩ = some (.int .i64 b) ∧ W'.cell? ⟨w.heap.size, 3, none⟩ = some (.int .i64 u) ∧ W'.cell? ⟨w.heap.size, 4, none⟩ = some (.int .i64 d) ∧ W'.cell? ⟨w.heap.size, 5, none⟩ = some (.int .i64 p) ∧ W'.cell? ⟨w.heap.size, 6, none⟩ = some (.int .i64 f) ∧ W'.cell? ⟨w.heap.size, 7, none⟩ = some (.int .i64 m) ∧ W'.cell? ⟨w.heap.size, 8, none⟩ = some (.int .i64 y) ∧ W'.cell? ⟨w.heap.size, 9, none⟩ = some (.int .i64 s) ∧ W'.cell? ⟨w.heap.size, 10, none⟩ = some (.int .i64 k) ∧ W'.cell? ⟨w.heap.size + 1, 0, none⟩ = some (.int .i64 fr) ∧ W'.cell? ⟨w.heap.size + 1, 1, none⟩ = some (.int .i64 to_) ∧ W'.cell? ⟨rb, ro, none⟩ = some (.slice pa rs0.length pc)) (first | exact ⟨z0, z1, z2, z3, z4, z5, z6, z7, z8, z9, z10, u0, u1, r0⟩ | go_keep) (first | (go_at_call 52; (with_reducible refine (HCM.out _ _ _ _ _ _ _ _ HOc.out HP5.out HPQ.out).mono ?_); rintro _ w3 ⟨rfl, hb3⟩; have hw := bl2 hw hb3; have ga := ga.below hb3 ga.lt; have gt := gt.below hb3 gt.lt; (have z0 := ga.cell 0; have z1 := ga.cell 1; have z2 := ga.cell 2; have z3 := ga.cell 3; have z4 := ga.cell 4; have z5 := ga.cell 5; have z6 := ga.cell 6; have z7 := ga.cell 7; have z8 := ga.cell 8; have z9 := ga.cell 9; have z10 := ga.cell 10; simp at z0 z1 z2 z3 z4 z5 z6 z7 z8 z9 z10; have u0 := gt.cell 0; have u1 := gt.cell 1; simp at u0 u1); (have r0 := (hw.cell (p := ⟨rb, ro, none⟩) hrb).trans HR0.out)) | ((refine step_append_lies _ (by rfl) _ _ _ (by rfl) (w.heap.size + 2) 29 i0 (.slice none 0 0) 1 24 uPersons hi iz0 iz1 iz2 rfl (by omega) (.slice (some ⟨g, 0, none⟩) l'.length cap) l'.length (flat DPs.cells l') (by rfl) (HPc.out.below (by (repeat (first | exact Below.refl _ _ | assumption | (refine Below.alloc ?_ (by first | omega | (simp; omega) | (simp; done)) _) | (refine Below.setCell ?_ (by first | omega | (simp; omega) | (simp; done)) _) | (refine Below.drew ?_) | (refine belowN ?_ _) | (refine Below.trans ?_ (Below.mono ‹Below _ _ _› (by first | omega | (simp; omega) | (simp; done)))))))).own _ 1 1 [.slice A3 l3.length q3] (by rfl) (by rfl) (by first | exact World.news_of_block (cs := #[.slice A3 l3.length q3]) (t := 29) (fr := (0, 0)) (heap_alloc_new _ _) | exact World.news_of_block (cs := #[.slice A3 l3.length q3]) (t := 29) (fr := (0, 0)) hN) (by simp [Value.oneCell']) (by omega) (by unfold maxLen; omega) (by omega) (by have := gt.lt; simp; omega) _ rfl ?_); intro gg cap5 w5 hown5 hgrow _ _; have HP5 : Hid (PsO w5 (w.heap.size + 2) (.slice (some ⟨gg, 0, none⟩) (l' ++ [(⟨A3, q3, l3⟩ : DPs)]).length cap5) (l' ++ [⟨A3, q3, l3⟩])) := (by rw [List.length_append, List.length_singleton]; exact (HPc.out.below (by (repeat (first | exact Below.refl _ _ | assumption | (refine Below.alloc ?_ (by first | omega | (simp; omega) | (simp; done)) _) | (refine Below.setCell ?_ (by first | omega | (simp; omega) | (simp; done)) _) | (refine Below.drew ?_) | (refine belowN ?_ _) | (refine Below.trans ?_ (Below.mono ‹Below _ _ _› (by first | omega | (simp; omega) | (simp; done)))))))).append (HQc.out.below (by (repeat (first | exact Below.refl _ _ | assumption | (refine Below.alloc ?_ (by first | omega | (simp; omega) | (simp; done)) _) | (refine Below.setCell ?_ (by first | omega | (simp; omega) | (simp; done)) _) | (refine Below.drew ?_) | (refine belowN ?_ _) | (refine Below.trans ?_ (Below.mono ‹Below _ _ _› (by first | omega | (simp; omega) | (simp; done)))))))) hown5 hgrow : PsO w5 _ _ _); (try (have HOc : Hid (w5.ownsRow 0 55 2 (.slice A1 l.length q1) l.length (flat Cyc.cells l)) := (own_step0 HOc.out (by (repeat (first | exact Below.refl _ _ | assumption | (refine Below.alloc ?_ (by first | omega | (simp; omega) | (simp; done)) _) | (refine Below.setCell ?_ (by first | omega | (simp; omega) | (simp; done)) _) | (refine Below.drew ?_) | (refine belowN ?_ _) | (refine Below.trans ?_ (Below.mono ‹Below _ _ _› (by first | omega | (simp; omega) | (simp; done)))))))).kept hgrow (ownsRow_apart (own_step0 HOc.out (by (repeat (first | exact Below.refl _ _ | assumption | (refine Below.alloc ?_ (by first | omega | (simp; omega) | (simp; done)) _) | (refine Below.setCell ?_ (by first | omega | (simp; omega) | (simp; done)) _) | (refine Below.drew ?_) | (refine belowN ?_ _) | (refine Below.trans ?_ (Below.mono ‹Below _ _ _› (by first | omega | (simp; omega) | (simp; done)))))))) (HPc.out.below (by (repeat (first | exact Below.refl _ _ | assumption | (refine Below.alloc ?_ (by first | omega | (simp; omega) | (simp; done)) _) | (refine Below.setCell ?_ (by first | omega | (simp; omega) | (simp; done)) _) | (refine Below.drew ?_) | (refine belowN ?_ _) | (refine Below.trans ?_ (Below.mono ‹Below _ _ _› (by first | omega | (simp; omega) | (simp; done)))))))).own (by decide)))); have hgb : ∀ q : Nat, (Value.slice (some ⟨g, 0, none⟩) l'.length cap).ownBlock = some q → w.heap.size + 2 ≤ q := (fun q hq => (HPc.out.own.lt q hq).1); have hw : Below w.heap.size w w5 := (bl2 hw (by (repeat (first | exact Below.refl _ _ | assumption | (refine Below.alloc ?_ (by first | omega | (simp; omega) | (simp; done)) _) | (refine Below.setCell ?_ (by first | omega | (simp; omega) | (simp; done)) _) | (refine Below.drew ?_) | (refine belowN ?_ _) | (refine Below.trans ?_ (Below.mono ‹Below _ _ _› (by first | omega | (simp; omega) | (simp; done)))))))).grown hgrow (by have := hw.size; simp; omega) (fun q hq => by have := hgb q hq; omega); have ga : Blk w5 w.heap.size #[.slice A l.length c, .int .i64 e, .int .i64 b, .int .i64 u, .int .i64 d, .int .i64 p, .int .i64 f, .int .i64 m, .int .i64 y, .int .i64 s, .int .i64 k] 28 := (ga.step0 (by (repeat (first | exact Below.refl _ _ | assumption | (refine Below.alloc ?_ (by first | omega | (simp; omega) | (simp; done)) _) | (refine Below.setCell ?_ (by first | omega | (simp; omega) | (simp; done)) _) | (refine Below.drew ?_) | (refine belowN ?_ _) | (refine Below.trans ?_ (Below.mono ‹Below _ _ _› (by first | omega | (simp; omega) | (simp; done)))))))).grown hgrow (fun hq => by have := hgb _ hq.symm; omega); have gt : Blk w5 (w.heap.size + 1) #[.int .i64 fr, .int .i64 to_] 36 := (gt.step0 (by (repeat (first | exact Below.refl _ _ | assumption | (refine Below.alloc ?_ (by first | omega | (simp; omega) | (simp; done)) _) | (refine Below.setCell ?_ (by first | omega | (simp; omega) | (simp; done)) _) | (refine Below.drew ?_) | (refine belowN ?_ _) | (refine Below.trans ?_ (Below.mono ‹Below _ _ _› (by first | omega | (simp; omega) | (simp; done)))))))).grown hgrow (fun hq => by have := hgb _ hq.symm; omega); (have z0 := ga.cell 0; have z1 := ga.cell 1; have z2 := ga.cell 2; have z3 := ga.cell 3; have z4 := ga.cell 4; have z5 := ga.cell 5; have z6 := ga.cell 6; have z7 := ga.cell 7; have z8 := ga.cell 8; have z9 := ga.cell 9; have z10 := ga.cell 10; simp at z0 z1 z2 z3 z4 z5 z6 z7 z8 z9 z10; have u0 := gt.cell 0; have u1 := gt.cell 1; simp at u0 u1); (have r0 := (hw.cell (p := ⟨rb, ro, none⟩) hrb).trans HR0.out); clear hown5 hgrow hgb) | (go_at_call 20; (with_reducible refine (HRU.out _ (bl2 hw (by (repeat (first | exact Below.refl _ _ | assumption | (refine Below.alloc ?_ (by first | omega | (simp; omega) | (simp; done)) _) | (refine Below.setCell ?_ (by first | omega | (simp; omega) | (simp; done)) _) | (refine Below.drew ?_) | (refine belowN ?_ _) | (refine Below.trans ?_ (Below.mono ‹Below _ _ _› (by first | omega | (simp; omega) | (simp; done))))))))).mono ?_); rintro _ w2 ⟨A3, q3, l3, rfl, hpl, hown3, hrow3, hb2⟩; have HPQ := Lib.hid hpl; have hl3 : l3.length ≤ 1000000 := (by rw [len_pl hpl]; omega); have HQc := Lib.hid (rowP_of hown3 hrow3 hl3); have HPc : Hid (PsO w2 (w.heap.size + 2) (.slice (some ⟨g, 0, none⟩) l'.length cap) l') := HPc.out.step (by (repeat (first | exact Below.refl _ _ | assumption | (refine Below.alloc ?_ (by first | omega | (simp; omega) | (simp; done)) _) | (refine Below.setCell ?_ (by first | omega | (simp; omega) | (simp; done)) _) | (refine Below.drew ?_) | (refine belowN ?_ _) | (refine Below.trans ?_ (Below.mono ‹Below _ _ _› (by first | omega | (simp; omega) | (simp; done))))))) hb2; (try (have HOc : Hid (w2.ownsRow 0 55 2 (.slice A1 l.length q1) l.length (flat Cyc.cells l)) := own_step HOc.out (by (repeat (first | exact Below.refl _ _ | assumption | (refine Below.alloc ?_ (by first | omega | (simp; omega) | (simp; done)) _) | (refine Below.setCell ?_ (by first | omega | (simp; omega) | (simp; done)) _) | (refine Below.drew ?_) | (refine belowN ?_ _) | (refine Below.trans ?_ (Below.mono ‹Below _ _ _› (by first | omega | (simp; omega) | (simp; done))))))) hb2)); have ga : Blk w2 w.heap.size #[.slice A l.length c, .int .i64 e, .int .i64 b, .int .i64 u, .int .i64 d, .int .i64 p, .int .i64 f, .int .i64 m, .int .i64 y, .int .i64 s, .int .i64 k] 28 := ga.step (by (repeat (first | exact Below.refl _ _ | assumption | (refine Below.alloc ?_ (by first | omega | (simp; omega) | (simp; done)) _) | (refine Below.setCell ?_ (by first | omega | (simp; omega) | (simp; done)) _) | (refine Below.drew ?_) | (refine belowN ?_ _) | (refine Below.trans ?_ (Below.mono ‹Below _ _ _› (by first | omega | (simp; omega) | (simp; done))))))) hb2; have gt : Blk w2 (w.heap.size + 1) #[.int .i64 fr, .int .i64 to_] 36 := gt.step (by (repeat (first | exact Below.refl _ _ | assumption | (refine Below.alloc ?_ (by first | omega | (simp; omega) | (simp; done)) _) | (refine Below.setCell ?_ (by first | omega | (simp; omega) | (simp; done)) _) | (refine Below.drew ?_) | (refine belowN ?_ _) | (refine Below.trans ?_ (Below.mono ‹Below _ _ _› (by first | omega | (simp; omega) | (simp; done))))))) hb2; have hw : Below w.heap.size w w2 := bl2 (bl2 hw (by (repeat (first | exact Below.refl _ _ | assumption | (refine Below.alloc ?_ (by first | omega | (simp; omega) | (simp; done)) _) | (refine Below.setCell ?_ (by first | omega | (simp; omega) | (simp; done)) _) | (refine Below.drew ?_) | (refine belowN ?_ _) | (refine Below.trans ?_ (Below.mono ‹Below _ _ _› (by first | omega | (simp; omega) | (simp; done)))))))) hb2; (have z0 := ga.cell 0; have z1 := ga.cell 1; have z2 := ga.cell 2; have z3 := ga.cell 3; have z4 := ga.cell 4; have z5 := ga.cell 5; have z6 := ga.cell 6; have z7 := ga.cell 7; have z8 := ga.cell 8; have z9 := ga.cell 9; have z10 := ga.cell 10; simp at z0 z1 z2 z3 z4 z5 z6 z7 z8 z9 z10; have u0 := gt.cell 0; have u1 := gt.cell 1; simp at u0 u1); (have r0 := (hw.cell (p := ⟨rb, ro, none⟩) hrb).trans HR0.out); clear hpl hown3 hrow3 hb2 hl3) | (go_at_call 19; (with_reducible refine (HOW.out _ (bl2 hw (by (repeat (first | exact Below.refl _ _ | assumption | (refine Below.alloc ?_ (by first | omega | (simp; omega) | (simp; done)) _) | (refine Below.setCell ?_ (by first | omega | (simp; omega) | (simp; done)) _) | (refine Below.drew ?_) | (refine belowN ?_ _) | (refine Below.trans ?_ (Below.mono ‹Below _ _ _› (by first | omega | (simp; omega) | (simp; done))))))))).mono ?_); rintro _ w1 ⟨A1, q1, rfl, -, -, hb1, hown1⟩; have HOc := Lib.hid (own_mono hown1.out); (try (have HPc : Hid (PsO w1 (w.heap.size + 2) (.slice (some ⟨g, 0, none⟩) l'.length cap) l') := HPc.out.step (by (repeat (first | exact Below.refl _ _ | assumption | (refine Below.alloc ?_ (by first | omega | (simp; omega) | (simp; done)) _) | (refine Below.setCell ?_ (by first | omega | (simp; omega) | (simp; done)) _) | (refine Below.drew ?_) | (refine belowN ?_ _) | (refine Below.trans ?_ (Below.mono ‹Below _ _ _› (by first | omega | (simp; omega) | (simp; done))))))) hb1)); (try (have HQc : Hid (RowP w1 ⟨A3, q3, l3⟩) := HQc.out.step (by (repeat (first | exact Below.refl _ _ | assumption | (refine Below.alloc ?_ (by first | omega | (simp; omega) | (simp; done)) _) | (refine Below.setCell ?_ (by first | omega | (simp; omega) | (simp; done)) _) | (refine Below.drew ?_) | (refine belowN ?_ _) | (refine Below.trans ?_ (Below.mono ‹Below _ _ _› (by first | omega | (simp; omega) | (simp; done))))))) hb1)); (try (have HP5 : Hid (PsO w1 (w.heap.size + 2) (.slice (some ⟨gg, 0, none⟩) (l' ++ [(⟨A3, q3, l3⟩ : DPs)]).length cap5) (l' ++ [⟨A3, q3, l3⟩])) := HP5.out.step (by (repeat (first | exact Below.refl _ _ | assumption | (refine Below.alloc ?_ (by first | omega | (simp; omega) | (simp; done)) _) | (refine Below.setCell ?_ (by first | omega | (simp; omega) | (simp; done)) _) | (refine Below.drew ?_) | (refine belowN ?_ _) | (refine Below.trans ?_ (Below.mono ‹Below _ _ _› (by first | omega | (simp; omega) | (simp; done))))))) hb1)); (try (have hN : w1.heap[w2.heap.size]? = some (.cells #[.slice A3 l3.length q3] 29 (0, 0)) := (hb1.block _ (by simp)).trans (heap_alloc_new _ _))); have ga : Blk w1 w.heap.size #[.slice A l.length c, .int .i64 e, .int .i64 b, .int .i64 u, .int .i64 d, .int .i64 p, .int .i64 f, .int .i64 m, .int .i64 y, .int .i64 s, .int .i64 k] 28 := ga.step (by (repeat (first | exact Below.refl _ _ | assumption | (refine Below.alloc ?_ (by first | omega | (simp; omega) | (simp; done)) _) | (refine Below.setCell ?_ (by first | omega | (simp; omega) | (simp; done)) _) | (refine Below.drew ?_) | (refine belowN ?_ _) | (refine Below.trans ?_ (Below.mono ‹Below _ _ _› (by first | omega | (simp; omega) | (simp; done))))))) hb1; have gt : Blk w1 (w.heap.size + 1) #[.int .i64 fr, .int .i64 to_] 36 := gt.step (by (repeat (first | exact Below.refl _ _ | assumption | (refine Below.alloc ?_ (by first | omega | (simp; omega) | (simp; done)) _) | (refine Below.setCell ?_ (by first | omega | (simp; omega) | (simp; done)) _) | (refine Below.drew ?_) | (refine belowN ?_ _) | (refine Below.trans ?_ (Below.mono ‹Below _ _ _› (by first | omega | (simp; omega) | (simp; done))))))) hb1; have hw : Below w.heap.size w w1 := bl2 (bl2 hw (by (repeat (first | exact Below.refl _ _ | assumption | (refine Below.alloc ?_ (by first | omega | (simp; omega) | (simp; done)) _) | (refine Below.setCell ?_ (by first | omega | (simp; omega) | (simp; done)) _) | (refine Below.drew ?_) | (refine belowN ?_ _) | (refine Below.trans ?_ (Below.mono ‹Below _ _ _› (by first | omega | (simp; omega) | (simp; done)))))))) hb1; (have z0 := ga.cell 0; have z1 := ga.cell 1; have z2 := ga.cell 2; have z3 := ga.cell 3; have z4 := ga.cell 4; have z5 := ga.cell 5; have z6 := ga.cell 6; have z7 := ga.cell 7; have z8 := ga.cell 8; have z9 := ga.cell 9; have z10 := ga.cell 10; simp at z0 z1 z2 z3 z4 z5 z6 z7 z8 z9 z10; have u0 := gt.cell 0; have u1 := gt.cell 1; simp at u0 u1); (have r0 := (hw.cell (p := ⟨rb, ro, none⟩) hrb).trans HR0.out); clear hown1 hb1))
              all_goals (
                go_wp2_with fail
                go_meet
                exact ⟨rfl, rfl, hw, ga, gt⟩)
              --D>
          case rest =>
            --T a9
            (clear z0 z1 z2 z3 z4 z5 z6 z7 z8 z9 z10 u0 u1)
            clear ga gt hw r0 HPc HCM HR0 HRU
            obtain ⟨rfl, rfl, hw, ga, gt⟩ := hcut
            rename World => W7
            (have z0 := ga.cell 0; have z1 := ga.cell 1; have z2 := ga.cell 2; have z3 := ga.cell 3; have z4 := ga.cell 4; have z5 := ga.cell 5; have z6 := ga.cell 6; have z7 := ga.cell 7; have z8 := ga.cell 8; have z9 := ga.cell 9; have z10 := ga.cell 10; simp at z0 z1 z2 z3 z4 z5 z6 z7 z8 z9 z10; have u0 := gt.cell 0; have u1 := gt.cell 1; simp at u0 u1)
            --T r13
            have e1 : (n != n) = false := by simp
            have e2 : (E != E) = false := by simp
            by_cases hE7 : E = 7
            · --D<e7
              subst hE7
              obtain ⟨hn0, -, -⟩ := comR_7 HRR.out
              subst hn0
              have HT7 : Hid (f2 = 0 ∨ f2 = 7) := (by
                have h1 := HRR.out; have h2 := HR2.out
                rw [HPD.out] at h1
                exact comR_tail7 h1 h2 : f2 = 0 ∨ f2 = 7)
              clear HRR HR2 HPD HRC
              rcases HT7.out with rfl | rfl
              all_goals
                go_wp2_with (go_at_call 17; refine (known_any _).mono ?_; rintro _ V1 ⟨rfl, hb1⟩; have hw := bl2 hw hb1)
                refine bodyPost_ret (v := .bool true) (by simp [results, Try.results12, go_sem]) rfl ?_
                exact ⟨rfl, hw⟩
              --D>
            · have e3 : (E == 7) = false := by simpa using hE7
              by_cases hE0 : E = 0
              · --D<e0
                subst hE0
                have HOK : Hid (f2 = 0 ∧ m2 ≤ n ∧ fr ≤ n ∧ n ≤ to_ ∧ ∀ q ∈ ps, ∃ i, allowedR X q.rules n = (true, i, 0)) := (by
                  have h1 := HRR.out; have h2 := HR2.out
                  rw [HPD.out] at h1
                  have h3 := comR_ok h1 h2
                  rw [← HPD.out] at h3
                  exact h3 : f2 = 0 ∧ m2 ≤ n ∧ fr ≤ n ∧ n ≤ to_ ∧ ∀ q ∈ ps, ∃ i, allowedR X q.rules n = (true, i, 0))
                obtain ⟨rfl, o1, o2, o3, hal⟩ := HOK.out
                have HALL := Lib.hid hal
                clear hal HOK HRR HR2 HPD HTW hE7 e3
                go_upto_region 19 with fail
                go_wp2_with fail
                have HW7 := Lib.hid hw; have HG7 := Lib.hid ga; have HT7 := Lib.hid gt
                (clear z0 z1 z2 z3 z4 z5 z6 z7 z8 z9 z10 u0 u1)
                clear hw ga gt
                go_loopw [15, 16, 17, 18] (fun i _ _ _ wr => ∃ j : Nat, j ≤ ps.length ∧ i = .int .i64 (j : Int) ∧ Hid (Below w.heap.size w wr) ∧ Hid (Blk wr w.heap.size #[.slice A l.length c, .int .i64 e, .int .i64 b, .int .i64 u, .int .i64 d, .int .i64 p, .int .i64 f, .int .i64 m, .int .i64 y, .int .i64 s, .int .i64 k] 28) ∧ Hid (Blk wr (w.heap.size + 1) #[.int .i64 fr, .int .i64 to_] 36)) (fun i _ _ _ _ => ps.length - (intOf i).toNat)
                case atStart => exact ⟨0, by omega, rfl, HW7.out, HG7.out, HT7.out⟩
                case round =>
                  clear HW7 HG7 HT7
                  obtain ⟨j, hj, rfl, hbw, hga, hgt⟩ := hrel
                  have hw := hbw.out; have ga := hga.out; have gt := hgt.out
                  clear hbw hga hgt
                  (have z0 := ga.cell 0; have z1 := ga.cell 1; have z2 := ga.cell 2; have z3 := ga.cell 3; have z4 := ga.cell 4; have z5 := ga.cell 5; have z6 := ga.cell 6; have z7 := ga.cell 7; have z8 := ga.cell 8; have z9 := ga.cell 9; have z10 := ga.cell 10; simp at z0 z1 z2 z3 z4 z5 z6 z7 z8 z9 z10; have u0 := gt.cell 0; have u1 := gt.cell 1; simp at u0 u1)
                  by_cases hlt : j < ps.length
                  · have HR0 := Lib.hid (HRC.out j hlt)
                    have hmem : ps[j] ∈ ps := List.getElem_mem hlt
                    have hlg0 := HNA.out _ hmem
                    have HRU := Lib.hid (HRL.out _ hmem hlg0)
                    have hl35 := (not_large hlg0).1
                    obtain ⟨ir, hir⟩ := HALL.out _ hmem
                    obtain ⟨q0, hq0⟩ : ∃ q, q = ps[j] := ⟨_, rfl⟩
                    rw [← hq0] at HR0 HRU hl35 hir
                    obtain ⟨pa, pc, rs0⟩ := q0
                    simp only at HR0 HRU hl35 hir
                    have HAL := Lib.hid (fun A' c' A3 k3 l' W h1 h2 h3 => allowedV hir (by rw [HXX.out]; exact hlx2) A' c' A3 k3 l' W h1 h2 h3)
                    rw [HXX.out] at HAL
                    simp only [Alm.cells] at HAL
                    have j0 : (0 : Int) ≤ (j : Int) := by omega
                    have j1 : (j : Int) < (ps.length : Int) := by omega
                    clear hq0 hlg0 hmem hir
                    have r0 := (hw.cell (p := ⟨rb, ro + j, none⟩) hrb).trans HR0.out
                    go_upto_region 22 with fail
                    go_cut [16, 17, 18] (fun s1 s2 s3 wx => s1 = .bool true ∧ s2 = .int .i64 ir ∧ s3 = .int .i64 0 ∧ Below w.heap.size w wx ∧ Blk wx w.heap.size #[.slice A l.length c, .int .i64 e, .int .i64 b, .int .i64 u, .int .i64 d, .int .i64 p, .int .i64 f, .int .i64 m, .int .i64 y, .int .i64 s, .int .i64 k] 28 ∧ Blk wx (w.heap.size + 1) #[.int .i64 fr, .int .i64 to_] 36)
                    case first =>
                      as_aux_lemma =>
                        go_region_held3 (fun W' => W'.cell? ⟨w.heap.size, 0, none⟩ = some (.slice A l.length c) ∧ W'.cell? ⟨w.heap.size, 1, none⟩ = some (.int .i64 e) ∧ W'.cell? ⟨w.heap.size, 2, none⟩ = some (.int .i64 b) ∧ W'.cell? ⟨w.heap.size, 3, none⟩ = some (.int .i64 u) ∧ W'.cell? ⟨w.heap.size, 4, none⟩ = some (.int .i64 d) ∧ W'.cell? ⟨w.heap.size, 5, none⟩ = some (.int .i64 p) ∧ W'.cell? ⟨w.heap.size, 6, none⟩ = some (.int .i64 f) ∧ W'.cell? ⟨w.heap.size, 7, none⟩ = some (.int .i64 m) ∧ W'.cell? ⟨w.heap.size, 8, none⟩ = some (.int .i64 y) ∧ W'.cell? ⟨w.heap.size, 9, none⟩ = some (.int .i64 s) ∧ W'.cell? ⟨w.heap.size, 10, none⟩ = some (.int .i64 k) ∧ W'.cell? ⟨w.heap.size + 1, 0, none⟩ = some (.int .i64 fr) ∧ W'.cell? ⟨w.heap.size + 1, 1, none⟩ = some (.int .i64 to_) ∧ W'.cell? ⟨rb, ro + j, none⟩ = some (.slice pa rs0.length pc)) (first | exact ⟨z0, z1, z2, z3, z4, z5, z6, z7, z8, z9, z10, u0, u1, r0⟩ | go_keep) (first | (go_at_call 37; (with_reducible refine (HAL.out _ _ _ _ _ _ hs2 hr3 HPQ.out).mono ?_); rintro _ w3 ⟨rfl, hb3⟩; have hw := bl2 hw hb3; have ga := ga.below hb3 ga.lt; have gt := gt.below hb3 gt.lt; (have z0 := ga.cell 0; have z1 := ga.cell 1; have z2 := ga.cell 2; have z3 := ga.cell 3; have z4 := ga.cell 4; have z5 := ga.cell 5; have z6 := ga.cell 6; have z7 := ga.cell 7; have z8 := ga.cell 8; have z9 := ga.cell 9; have z10 := ga.cell 10; simp at z0 z1 z2 z3 z4 z5 z6 z7 z8 z9 z10; have u0 := gt.cell 0; have u1 := gt.cell 1; simp at u0 u1); have r0 := (hw.cell (p := ⟨rb, ro + j, none⟩) hrb).trans HR0.out) | (go_at_call 20; (with_reducible refine (HRU.out _ hw).mono ?_); rintro _ w2 ⟨A3, q3, l3, rfl, hpl, hown3, hrow3, hb2⟩; have HPQ := Lib.hid hpl; have hl3 : l3.length ≤ 1000000 := (by rw [len_pl hpl]; omega); have hr3 := RetRls.at_ hown3.out hrow3 hl3; have hs2 := (hs1.below hb2).more hb2.size; have ga := ga.below hb2 ga.lt; have gt := gt.below hb2 gt.lt; have hw := bl2 hw hb2; (have z0 := ga.cell 0; have z1 := ga.cell 1; have z2 := ga.cell 2; have z3 := ga.cell 3; have z4 := ga.cell 4; have z5 := ga.cell 5; have z6 := ga.cell 6; have z7 := ga.cell 7; have z8 := ga.cell 8; have z9 := ga.cell 9; have z10 := ga.cell 10; simp at z0 z1 z2 z3 z4 z5 z6 z7 z8 z9 z10; have u0 := gt.cell 0; have u1 := gt.cell 1; simp at u0 u1); have r0 := (hw.cell (p := ⟨rb, ro + j, none⟩) hrb).trans HR0.out; clear hpl hown3 hrow3 hb2 hl3) | (go_at_call 19; (with_reducible refine (HOW.out _ (bl2 hw (by (repeat (first | exact Below.refl _ _ | assumption | (refine Below.alloc ?_ (by first | omega | (simp; omega) | (simp; done)) _) | (refine Below.setCell ?_ (by first | omega | (simp; omega) | (simp; done)) _) | (refine Below.drew ?_) | (refine belowN ?_ _) | (refine Below.trans ?_ (Below.mono ‹Below _ _ _› (by first | omega | (simp; omega) | (simp; done))))))))).mono ?_); rintro _ w1 ⟨A1, q1, rfl, hs1, -, hb1, -⟩; have ga : Blk w1 w.heap.size #[.slice A l.length c, .int .i64 e, .int .i64 b, .int .i64 u, .int .i64 d, .int .i64 p, .int .i64 f, .int .i64 m, .int .i64 y, .int .i64 s, .int .i64 k] 28 := ga.step (by (repeat (first | exact Below.refl _ _ | assumption | (refine Below.alloc ?_ (by first | omega | (simp; omega) | (simp; done)) _) | (refine Below.setCell ?_ (by first | omega | (simp; omega) | (simp; done)) _) | (refine Below.drew ?_) | (refine belowN ?_ _) | (refine Below.trans ?_ (Below.mono ‹Below _ _ _› (by first | omega | (simp; omega) | (simp; done))))))) hb1; have gt : Blk w1 (w.heap.size + 1) #[.int .i64 fr, .int .i64 to_] 36 := gt.step (by (repeat (first | exact Below.refl _ _ | assumption | (refine Below.alloc ?_ (by first | omega | (simp; omega) | (simp; done)) _) | (refine Below.setCell ?_ (by first | omega | (simp; omega) | (simp; done)) _) | (refine Below.drew ?_) | (refine belowN ?_ _) | (refine Below.trans ?_ (Below.mono ‹Below _ _ _› (by first | omega | (simp; omega) | (simp; done))))))) hb1; have hw : Below w.heap.size w w1 := bl2 (bl2 hw (by (repeat (first | exact Below.refl _ _ | assumption | (refine Below.alloc ?_ (by first | omega | (simp; omega) | (simp; done)) _) | (refine Below.setCell ?_ (by first | omega | (simp; omega) | (simp; done)) _) | (refine Below.drew ?_) | (refine belowN ?_ _) | (refine Below.trans ?_ (Below.mono ‹Below _ _ _› (by first | omega | (simp; omega) | (simp; done)))))))) hb1; (have z0 := ga.cell 0; have z1 := ga.cell 1; have z2 := ga.cell 2; have z3 := ga.cell 3; have z4 := ga.cell 4; have z5 := ga.cell 5; have z6 := ga.cell 6; have z7 := ga.cell 7; have z8 := ga.cell 8; have z9 := ga.cell 9; have z10 := ga.cell 10; simp at z0 z1 z2 z3 z4 z5 z6 z7 z8 z9 z10; have u0 := gt.cell 0; have u1 := gt.cell 1; simp at u0 u1); have r0 := (hw.cell (p := ⟨rb, ro + j, none⟩) hrb).trans HR0.out; clear hb1))
                        all_goals (
                          go_wp2_with fail
                          go_meet
                          exact ⟨rfl, rfl, rfl, hw, ga, gt⟩)
                    case rest =>
                      (clear z0 z1 z2 z3 z4 z5 z6 z7 z8 z9 z10 u0 u1)
                      clear ga gt hw r0 HAL HR0 HRU
                      obtain ⟨rfl, rfl, rfl, hw, ga, gt⟩ := hcut
                      go_wp2_with fail
                      go_roundw
                      case rel => exact ⟨j + 1, by omega, by go_num, hw, ga, gt⟩
                      case measure => simp [intOf]; omega
                  · obtain rfl : j = ps.length := by omega
                    have d1 : decide (m2 ≤ n) = true := decide_eq_true o1
                    have d2 : decide (fr ≤ n) = true := decide_eq_true o2
                    have d3 : decide (n ≤ to_) = true := decide_eq_true o3
                    clear hlt hj HRC HRL HNA HALL
                    go_wp2_with (go_at_call 17; refine (known_any _).mono ?_; rintro _ V1 ⟨rfl, hb1⟩; have hw := bl2 hw hb1)
                    refine bodyPost_ret (v := .bool true) (by simp [results, Try.results12, go_sem]) rfl ?_
                    exact ⟨rfl, hw⟩
                --D>
              · --D<e9
                have e4 : (E != 0) = true := by simpa using hE0
                obtain rfl := comR_n0 HRR.out hE0
                clear hE7 hE0 HRR HR2 HPD HRC
                go_wp2_with (go_at_call 17; refine (known_any _).mono ?_; rintro _ V1 ⟨rfl, hb1⟩; have hw := bl2 hw hb1)
                refine bodyPost_ret (v := .bool true) (by simp [results, Try.results12, go_sem]) rfl ?_
                exact ⟨rfl, hw⟩
                --D>
      --D>
set_option maxRecDepth 100000 in
set_option maxHeartbeats 4000000 in
theorem lwguests_w (x : Alm) (A2 : Option Addr) (c2 : Nat) (ps : List DPs) (fr to_ : Int) (w : World) (hz : x.a = none → x.c = 0) (hcx : Sl Cyc.cells 2 w w.heap.size x.a x.cycles) (hr : PsW w w.heap.size A2 ps) :
    Calls Try.prog 12 #[.agg x.cells.toArray, .slice A2 ps.length c2, .agg #[.int .i64 fr, .int .i64 to_]] w fun en w' => en = .returned (.bool true) ∧ Below w.heap.size w w' := by
  by_cases h1 : 1 ≤ ps.length
  · by_cases h9 : ps.length ≤ 9
    · exact lwguests_any x A2 c2 ps fr to_ w hz hcx hr h1 h9
    · have q1 : decide ((ps.length : Int) < 1) = false := by simp; omega
      have q2 : decide ((9 : Int) < (ps.length : Int)) = true := by simp; omega
      clear hz hcx hr h1 h9
      obtain ⟨A, c, l, ⟨e, b, u⟩, ⟨d, p, f, m, y, s, k⟩⟩ := x
      simp only [Alm.cells]
      go_enter Try.func12, Try.ntmps12
      go_upto_region 1 with fail
      refine gen_w (fun W => Blk W w.heap.size #[.slice A l.length c, .int .i64 e, .int .i64 b, .int .i64 u, .int .i64 d, .int .i64 p, .int .i64 f, .int .i64 m, .int .i64 y, .int .i64 s, .int .i64 k] 28 ∧ Blk W (w.heap.size + 1) #[.int .i64 fr, .int .i64 to_] 36 ∧ Below w.heap.size w W) ⟨(Blk.at_ rfl).alloc _, Blk.at_ (by simp), by (repeat (first | exact Below.refl _ _ | assumption | (refine Below.alloc ?_ (by first | omega | (simp; omega) | (simp; done)) _) | (refine Below.setCell ?_ (by first | omega | (simp; omega) | (simp; done)) _) | (refine Below.drew ?_) | (refine belowN ?_ _) | (refine Below.trans ?_ (Below.mono ‹Below _ _ _› (by first | omega | (simp; omega) | (simp; done))))))⟩ ?_
      rintro V0 ⟨ga, gt, hw⟩
      (have z0 := ga.cell 0; have z1 := ga.cell 1; have z2 := ga.cell 2; have z3 := ga.cell 3; have z4 := ga.cell 4; have z5 := ga.cell 5; have z6 := ga.cell 6; have z7 := ga.cell 7; have z8 := ga.cell 8; have z9 := ga.cell 9; have z10 := ga.cell 10; simp at z0 z1 z2 z3 z4 z5 z6 z7 z8 z9 z10; have u0 := gt.cell 0; have u1 := gt.cell 1; simp at u0 u1)
      go_wp2_with (go_at_call 17; refine (known_any _).mono ?_; rintro _ V1 ⟨rfl, hb1⟩; have hw := bl2 hw hb1)
      refine bodyPost_ret (v := .bool true) (by simp [results, Try.results12, go_sem]) rfl ?_
      exact ⟨rfl, hw⟩
  · have q1 : decide ((ps.length : Int) < 1) = true := by simp; omega
    clear hz hcx hr h1
    obtain ⟨A, c, l, ⟨e, b, u⟩, ⟨d, p, f, m, y, s, k⟩⟩ := x
    simp only [Alm.cells]
    go_enter Try.func12, Try.ntmps12
    go_upto_region 1 with fail
    refine gen_w (fun W => Blk W w.heap.size #[.slice A l.length c, .int .i64 e, .int .i64 b, .int .i64 u, .int .i64 d, .int .i64 p, .int .i64 f, .int .i64 m, .int .i64 y, .int .i64 s, .int .i64 k] 28 ∧ Blk W (w.heap.size + 1) #[.int .i64 fr, .int .i64 to_] 36 ∧ Below w.heap.size w W) ⟨(Blk.at_ rfl).alloc _, Blk.at_ (by simp), by (repeat (first | exact Below.refl _ _ | assumption | (refine Below.alloc ?_ (by first | omega | (simp; omega) | (simp; done)) _) | (refine Below.setCell ?_ (by first | omega | (simp; omega) | (simp; done)) _) | (refine Below.drew ?_) | (refine belowN ?_ _) | (refine Below.trans ?_ (Below.mono ‹Below _ _ _› (by first | omega | (simp; omega) | (simp; done))))))⟩ ?_
    rintro V0 ⟨ga, gt, hw⟩
    (have z0 := ga.cell 0; have z1 := ga.cell 1; have z2 := ga.cell 2; have z3 := ga.cell 3; have z4 := ga.cell 4; have z5 := ga.cell 5; have z6 := ga.cell 6; have z7 := ga.cell 7; have z8 := ga.cell 8; have z9 := ga.cell 9; have z10 := ga.cell 10; simp at z0 z1 z2 z3 z4 z5 z6 z7 z8 z9 z10; have u0 := gt.cell 0; have u1 := gt.cell 1; simp at u0 u1)
    go_wp2_with (go_at_call 17; refine (known_any _).mono ?_; rintro _ V1 ⟨rfl, hb1⟩; have hw := bl2 hw hb1)
    refine bodyPost_ret (v := .bool true) (by simp [results, Try.results12, go_sem]) rfl ?_
    exact ⟨rfl, hw⟩
end Go.Proofs.Ytfbnllmmoaialaa

/- The reference: Keeps returns the first claim that is not kept, with the first chart. -/
import Derived.Test.YtidlmbajpbbilaaRgD
import Derived.Deep.RegionHeld
namespace Go.Proofs.Ytidlmbajpbbilaa
open Go.RowKit

/-- grown from w on -/
def Up (w W : World) : Prop := Below w.heap.size w W
set_option maxRecDepth 100000 in
set_option maxHeartbeats 8000000 in
theorem rkeeps_any (s : Sch) (V : Valid s) (V3 : ∀ r ∈ s.rules, ∀ t ∈ r.when_, TestFit3 s.places.toNat t) (cs : List Clm) (A : Option Addr) (c : Nat) (w : World) (hr : s.reads w w.heap.size) (hA : ClmsRead w w.heap.size A cs) (hE : claimsE s cs = 0) :
    Calls Try.prog 26 #[scv s s.rv, .slice A cs.length c] w fun e w' => e = .returned (.tuple #[.int .i64 (keepsI s cs 0).1, .int .i64 (keepsI s cs 0).2]) ∧ Below w.heap.size w w' := by
  have HRR := Lib.hid hr; have HAA := Lib.hid hA; have HV := Lib.hid V; have H3 := Lib.hid V3; have HE := Lib.hid hE
  have hsm := V.small
  have hc4 := V.charts
  have HCI := Lib.hid (chartsC_int V)
  have hlm := hA.2.1
  clear hr hA V V3 hE
  go_enter Try.func26, Try.ntmps26
  go_wp2
  refine wp_world (fun W => Below w.heap.size w W ∧ w.heap.size < W.heap.size ∧ Blk W w.heap.size #[.int .i64 s.places, .int .i64 s.signs, .int .i64 s.kinds, .int .i64 s.answers, s.rv] 24) ⟨(Below.refl _ _).alloc (Nat.le_refl _) _, by simp, Blk.at_ rfl⟩ ?_
  rintro w0 ⟨hbw, hz0, g0⟩
  go_loopw [6] (fun i wr => ∃ j : Nat, j ≤ cs.length ∧ i = .int .i64 j ∧ Below w0.heap.size w0 wr ∧ Hid (keepsI s cs 0 = keepsI s (cs.drop j) j)) (fun i _ => cs.length - (intOf i).toNat)
  case atStart => exact ⟨0, by omega, rfl, Below.refl _ _, rfl⟩
  case round =>
    obtain ⟨j, hj, rfl, hb, HK⟩ := hrel
    have hsz := hb.size
    have hbr : Below w.heap.size w wr := hbw.trans (hb.mono (by omega))
    have g0r := g0.below hb (by omega)
    by_cases hlt : j < cs.length
    · have hrr := HAA.out.below hbr
      obtain ⟨ab, ao, rfl, hblk, hcell⟩ := hrr.1.at_ (k := j) (fun _ => rfl) hlt
      have HD := Lib.hid (keepsI_drop (s := s) hlt)
      have hqr := hrr.2.2 _ (List.getElem_mem hlt)
      obtain ⟨hk, hg⟩ := claimsE_zero HE.out cs[j] (List.getElem_mem hlt)
      obtain ⟨q, hqe⟩ : ∃ t, cs[j] = t := ⟨_, rfl⟩
      rw [hqe] at hcell HD hqr hk hg
      have cw0 : wr.cell? ⟨ab, ao + j * 4, none⟩ = some (Value.int .i64 q.kind) := hcell 0 _ rfl
      have cw1 : wr.cell? ⟨ab, ao + j * 4 + 1, none⟩ = some (Value.slice q.sa q.sets.length q.sc) := hcell 1 _ rfl
      have cw2 : wr.cell? ⟨ab, ao + j * 4 + 2, none⟩ = some (Value.bool q.total) := hcell 2 _ rfl
      have cw3 : wr.cell? ⟨ab, ao + j * 4 + 3, none⟩ = some (Value.bool q.clear) := hcell 3 _ rfl
      have hj0 : (0 : Int) ≤ (j : Int) := by omega
      have hj1 : (j : Int) < (cs.length : Int) := by omega
      obtain ⟨m0, m1⟩ := inB_iff.1 hk
      have HQ := Lib.hid hqr
      have hablt : ab < wr.heap.size := by omega
      have hsl : Hid (q.sets.length = s.places.toNat) := by show _ = _; simp [regB] at hg; omega
      clear hcell hrr hqe hqr hk hg
      go_wp2
      rename World => wo
      go_loopw [7] (fun i wi => ∃ k : Nat, k ≤ chartsC s ∧ i = .int .i64 k ∧ Below wo.heap.size wo wi ∧ Hid (∀ i, i < k → badC s q i = false)) (fun i _ => chartsC s - (intOf i).toNat)
      case atStart => exact ⟨0, by omega, rfl, Below.refl _ _, fun i hi => by omega⟩
      case round =>
        obtain ⟨k, hkc, rfl, hbi, HN⟩ := hrel
        have hsi := hbi.size
        have hbx : Below w.heap.size w wr := hbr.trans (hbi.mono (by omega))
        have g0 := g0r.below hbi (by omega)
        have q0 := g0.cell; have p0 := q0 0; have p1 := q0 1; have p2 := q0 2; have p3 := q0 3; have p4 := q0 4
        simp at p0 p1 p2 p3 p4
        clear q0
        have hcin := HCI.out
        by_cases hlk : k < chartsC s
        · have d : decide ((k : Int) < chartsN s.signs s.places.toNat) = true := by simp; omega
          have hk4 : (k : Int) ≤ 4096 := by omega
          have hln : Hid ((chartL s k).length = s.places.toNat) := (digits_len _ _ _ : (chartL s k).length = s.places.toNat)
          clear hcin
          go_wp2_with (first | (go_at_call 40; refine (rcharts_any s s.rv hsm _).mono ?_; rintro _ Wa ⟨rfl, hba⟩; have q0 := (g0.below hba g0.lt).cell; have p0 := q0 0; have p1 := q0 1; have p2 := q0 2; have p3 := q0 3; have p4 := q0 4; simp at p0 p1 p2 p3 p4) |
            (go_at_call 41; refine (rchart_any s s.rv k hsm (by omega) hk4 _).mono ?_; rintro _ Wb ⟨v, rfl, hown, hbb⟩; refine Hid.out ?_))
          have hx : Below wr.heap.size wr Wb := bl2 hba hbb
          have hxr : Below wo.heap.size wo Wb := bl2 hbi hx
          have hxw : Below w.heap.size w Wb := bl2 hbr hxr
          obtain ⟨A', c', rfl, hA'⟩ := Sl.of_own hown
          have HA' := Lib.hid hA'
          have g0 := g0r.below hxr (by omega)
          have l0 := g0.lt
          have habx : ab < Wb.heap.size := by have := hxr.size; omega
          have hne1 : Wb.heap.size ≠ w.heap.size := by omega
          have hne2 : Wb.heap.size ≠ ab := by omega
          have q0 := g0.cell; have p0 := q0 0; have p1 := q0 1; have p2 := q0 2; have p3 := q0 3; have p4 := q0 4
          simp at p0 p1 p2 p3 p4
          clear q0
          have v0 := (hxr.cell (p := ⟨ab, ao + j * 4, none⟩) hablt).trans cw0
          have HRD : Hid (∀ W, Below Wb.heap.size Wb W → Calls Try.prog 44 #[scv s s.rv, .slice A' (chartL s k).length c', .int .i64 q.kind] W (RetR (readP s q.kind (chartL s k)) W)) := fun W hW =>
            rread_any s HV.out H3.out (chartL s k) q.kind A' c' _ _ ((HRR.out.below (bl2 hxw hW)).more (bl2 hxw hW).size) m0 (by omega) hln.out rfl (chartL_bd HV.out k) ((HA'.out.below hW).more hW.size)
          have HRH : Hid (∀ W, Below Wb.heap.size Wb W → Calls Try.prog 63 #[.slice q.sa q.sets.length q.sc, .slice A' (chartL s k).length c'] W fun e w' => e = .returned (.bool (inR s q.sets k)) ∧ Below W.heap.size W w') := fun W hW =>
            rhas_any q.sa A' q.sc c' q.sets (chartL s k) W (by rw [hln.out]; have := hsm.2.1; omega) (by rw [hln.out, hsl.out]) HQ.out.2.2 (chartL_bd HV.out k) ((HQ.out.1.below ((bl2 hxr hW).mono (by omega))).more (by have := (bl2 hxr hW).size; omega)) ((HA'.out.below hW).more hW.size)
          obtain ⟨kd, RQ, RM, hRP⟩ : ∃ a b c, readP s q.kind (chartL s k) = (a, b, c) := ⟨_, _, _, rfl⟩
          rw [hRP] at HRD
          have hkd : Hid (kd = kdAt s q.kind k) := (by rw [← readP_kind, hRP] : kd = kdAt s q.kind k)
          clear hown hA' hba hbb d hRP
          refine Lib.hid ?_
          go_wp2
          go_region_held (fun W' => W'.cell? ⟨w.heap.size, 0, none⟩ = some (.int .i64 s.places) ∧ W'.cell? ⟨w.heap.size, 1, none⟩ = some (.int .i64 s.signs) ∧ W'.cell? ⟨w.heap.size, 2, none⟩ = some (.int .i64 s.kinds) ∧ W'.cell? ⟨w.heap.size, 3, none⟩ = some (.int .i64 s.answers) ∧ W'.cell? ⟨w.heap.size, 4, none⟩ = some s.rv ∧ W'.cell? ⟨ab, ao + j * 4, none⟩ = some (.int .i64 q.kind)) (first | exact ⟨p0, p1, p2, p3, p4, v0⟩ | go_keep) ((go_at_call 44; refine (HRD.out _ (by (repeat (first | exact Below.refl _ _ | assumption | (refine Below.alloc ?_ (by first | omega | (simp; omega) | (simp; done)) _) | (refine Below.setCell ?_ (by first | omega | (simp; omega) | (simp; done)) _) | (refine Below.drew ?_) | (refine belowN ?_ _) | (refine Below.trans ?_ (Below.mono ‹Below _ _ _› (by first | omega | (simp; omega) | (simp; done)))))))).mono ?_; rintro _ Wc ⟨Y1, y1, Z1, z1, rfl, hY1, hZ1, hbc⟩; have hyc : Below Wb.heap.size Wb Wc := Below.trans (by (repeat (first | exact Below.refl _ _ | assumption | (refine Below.alloc ?_ (by first | omega | (simp; omega) | (simp; done)) _) | (refine Below.setCell ?_ (by first | omega | (simp; omega) | (simp; done)) _) | (refine Below.drew ?_) | (refine belowN ?_ _) | (refine Below.trans ?_ (Below.mono ‹Below _ _ _› (by first | omega | (simp; omega) | (simp; done))))))) (hbc.mono (by simp)); have q0 := (g0.below hyc l0).cell; have p0 := q0 0; have p1 := q0 1; have p2 := q0 2; have p3 := q0 3; have p4 := q0 4; simp at p0 p1 p2 p3 p4; have v0 := (hyc.cell (p := ⟨ab, ao + j * 4, none⟩) habx).trans v0; clear q0 hY1 hZ1; have hne3 : Wc.heap.size ≠ w.heap.size := (by have := hyc.size; omega); have hne4 : Wc.heap.size ≠ ab := (by have := hyc.size; omega); try (have gz : Blk Wc Wb.heap.size #[.int .i64 0, .slice none 0 0, .slice none 0 0] 73 := (Blk.new Wb.drew _ _).below hbc (by simp); have f0 := gz.free 0; have f1 := gz.free 1; have f2 := gz.free 2; have f3 := gz.cell 0; have f4 := gz.cell 1; have f5 := gz.cell 2; simp at f3 f4 f5)))
          all_goals (
            first |
              (refine gen_w (fun W => Up Wb W ∧ Blk W Wc.heap.size #[.int .i64 kd, .slice Y1 RQ.length y1, .slice Z1 RM.length z1] 73) ⟨hyc.alloc hyc.size _, Blk.new _ _ _⟩ ?_; clear hne3 hne4 hbc; generalize Wc.heap.size = rb) |
              (refine gen_w (fun W => Up Wb W ∧ Blk W Wb.heap.size #[.int .i64 kd, .slice Y1 RQ.length y1, .slice Z1 RM.length z1] 73) ⟨((hyc.setCell (Nat.le_refl _) _).setCell (Nat.le_refl _) _).setCell (Nat.le_refl _) _, (((gz.set 0 _).set 1 _).set 2 _)⟩ ?_; generalize Wb.heap.size = rb))
          all_goals (
            clear p0 p1 p2 p3 p4 v0 hyc
            rintro We ⟨hye, gr⟩
            have hye : Below Wb.heap.size Wb We := hye
            have r0 := gr.cell 0
            simp at r0
            have hoe : Below wo.heap.size wo We := bl2 hxr hye
            have cv1 := (hoe.cell (p := ⟨ab, ao + j * 4 + 1, none⟩) hablt).trans cw1
            have cv2 := (hoe.cell (p := ⟨ab, ao + j * 4 + 2, none⟩) hablt).trans cw2
            have cv3 := (hoe.cell (p := ⟨ab, ao + j * 4 + 3, none⟩) hablt).trans cw3
            have HRE := fun W (hW : Below We.heap.size We W) => Lib.hid (HRH.out W (bl2 hye hW))
            have hwe : Below w.heap.size w We := bl2 hxw hye
            obtain ⟨tt, htt⟩ : ∃ t, t = q.total := ⟨_, rfl⟩
            obtain ⟨cc, hcc⟩ : ∃ t, t = q.clear := ⟨_, rfl⟩
            have hbad : Hid (badC s q k = (inR s q.sets k && ((tt && kdAt s q.kind k == 2) || (cc && kdAt s q.kind k == 3)))) := (by rw [htt, hcc]; rfl : badC s q k = _)
            rw [← htt] at cv2
            rw [← hcc] at cv3
            clear htt hcc
            have hiw := hoe.size
            have hab2 : ab < We.heap.size := by omega
            have lrb := gr.lt
            cases hin : inR s q.sets k with
            | false =>
              rw [hin] at HRE hbad
              have hno : Hid (badC s q k = false) := (by rw [hbad.out]; rfl : badC s q k = false)
              clear hbad HRH
              go_wp2_with (go_at_call 63; refine ((HRE _ (Below.refl _ _)).out).mono ?_; rintro _ Wf ⟨rfl, hb1⟩; have cv2 := (hb1.cell (p := ⟨ab, ao + j * 4 + 2, none⟩) hab2).trans cv2; have cv3 := (hb1.cell (p := ⟨ab, ao + j * 4 + 3, none⟩) hab2).trans cv3; have r0 := (hb1.cell (p := ⟨rb, 0, none⟩) lrb).trans r0)
              go_roundw
              case rel => exact ⟨k + 1, by omega, by go_num, bl2 hoe hb1, upto_succ HN hno.out⟩
              case measure => simp [intOf]; omega
            | true =>
              rw [hin] at HRE hbad
              rcases kindOf_cases (ansL s q.kind k) with h2 | h2 | h2
              · obtain rfl : kd = 2 := hkd.out.trans h2
                have hk3 : kdAt s q.kind k = 2 := h2
                cases tt <;> cases cc
                all_goals (
                  first |
                    (have hno : Hid (badC s q k = false) := (by rw [hbad.out, hk3]; rfl : badC s q k = false)
                     clear hbad HRH
                     go_wp2_with (go_at_call 63; refine ((HRE _ (Below.refl _ _)).out).mono ?_; rintro _ Wf ⟨rfl, hb1⟩; have cv2 := (hb1.cell (p := ⟨ab, ao + j * 4 + 2, none⟩) hab2).trans cv2; have cv3 := (hb1.cell (p := ⟨ab, ao + j * 4 + 3, none⟩) hab2).trans cv3; have r0 := (hb1.cell (p := ⟨rb, 0, none⟩) lrb).trans r0)
                     go_roundw
                     case rel => exact ⟨k + 1, by omega, by go_num, bl2 hoe hb1, upto_succ HN hno.out⟩
                     case measure => simp [intOf]; omega
                                        ) |
                    (have hyes : Hid (badC s q k = true) := (by rw [hbad.out, hk3]; rfl : badC s q k = true)
                     have HT : Hid (keepsI s cs 0 = ((j : Int), (k : Int))) := (by rw [HK.out, HD.out, firstN_at hlk HN.out hyes.out, if_pos (by omega)] : keepsI s cs 0 = ((j : Int), (k : Int)))
                     clear hbad HRH
                     go_wp2_with (go_at_call 63; refine ((HRE _ (Below.refl _ _)).out).mono ?_; rintro _ Wf ⟨rfl, hb1⟩; have cv2 := (hb1.cell (p := ⟨ab, ao + j * 4 + 2, none⟩) hab2).trans cv2; have cv3 := (hb1.cell (p := ⟨ab, ao + j * 4 + 3, none⟩) hab2).trans cv3; have r0 := (hb1.cell (p := ⟨rb, 0, none⟩) lrb).trans r0)
                     refine bodyPost_ret (v := .tuple #[.int .i64 j, .int .i64 k]) (by simp [results, Try.results26, go_sem]) rfl ?_
                     exact ⟨by rw [HT.out], bl2 hwe hb1⟩
                    ))
              · obtain rfl : kd = 3 := hkd.out.trans h2
                have hk3 : kdAt s q.kind k = 3 := h2
                cases tt <;> cases cc
                all_goals (
                  first |
                    (have hno : Hid (badC s q k = false) := (by rw [hbad.out, hk3]; rfl : badC s q k = false)
                     clear hbad HRH
                     go_wp2_with (go_at_call 63; refine ((HRE _ (Below.refl _ _)).out).mono ?_; rintro _ Wf ⟨rfl, hb1⟩; have cv2 := (hb1.cell (p := ⟨ab, ao + j * 4 + 2, none⟩) hab2).trans cv2; have cv3 := (hb1.cell (p := ⟨ab, ao + j * 4 + 3, none⟩) hab2).trans cv3; have r0 := (hb1.cell (p := ⟨rb, 0, none⟩) lrb).trans r0)
                     go_roundw
                     case rel => exact ⟨k + 1, by omega, by go_num, bl2 hoe hb1, upto_succ HN hno.out⟩
                     case measure => simp [intOf]; omega
                                        ) |
                    (have hyes : Hid (badC s q k = true) := (by rw [hbad.out, hk3]; rfl : badC s q k = true)
                     have HT : Hid (keepsI s cs 0 = ((j : Int), (k : Int))) := (by rw [HK.out, HD.out, firstN_at hlk HN.out hyes.out, if_pos (by omega)] : keepsI s cs 0 = ((j : Int), (k : Int)))
                     clear hbad HRH
                     go_wp2_with (go_at_call 63; refine ((HRE _ (Below.refl _ _)).out).mono ?_; rintro _ Wf ⟨rfl, hb1⟩; have cv2 := (hb1.cell (p := ⟨ab, ao + j * 4 + 2, none⟩) hab2).trans cv2; have cv3 := (hb1.cell (p := ⟨ab, ao + j * 4 + 3, none⟩) hab2).trans cv3; have r0 := (hb1.cell (p := ⟨rb, 0, none⟩) lrb).trans r0)
                     refine bodyPost_ret (v := .tuple #[.int .i64 j, .int .i64 k]) (by simp [results, Try.results26, go_sem]) rfl ?_
                     exact ⟨by rw [HT.out], bl2 hwe hb1⟩
                    ))
              · obtain rfl : kd = 1 := hkd.out.trans h2
                have hk3 : kdAt s q.kind k = 1 := h2
                cases tt <;> cases cc
                all_goals (
                  first |
                    (have hno : Hid (badC s q k = false) := (by rw [hbad.out, hk3]; rfl : badC s q k = false)
                     clear hbad HRH
                     go_wp2_with (go_at_call 63; refine ((HRE _ (Below.refl _ _)).out).mono ?_; rintro _ Wf ⟨rfl, hb1⟩; have cv2 := (hb1.cell (p := ⟨ab, ao + j * 4 + 2, none⟩) hab2).trans cv2; have cv3 := (hb1.cell (p := ⟨ab, ao + j * 4 + 3, none⟩) hab2).trans cv3; have r0 := (hb1.cell (p := ⟨rb, 0, none⟩) lrb).trans r0)
                     go_roundw
                     case rel => exact ⟨k + 1, by omega, by go_num, bl2 hoe hb1, upto_succ HN hno.out⟩
                     case measure => simp [intOf]; omega
                                        ) |
                    (have hyes : Hid (badC s q k = true) := (by rw [hbad.out, hk3]; rfl : badC s q k = true)
                     have HT : Hid (keepsI s cs 0 = ((j : Int), (k : Int))) := (by rw [HK.out, HD.out, firstN_at hlk HN.out hyes.out, if_pos (by omega)] : keepsI s cs 0 = ((j : Int), (k : Int)))
                     clear hbad HRH
                     go_wp2_with (go_at_call 63; refine ((HRE _ (Below.refl _ _)).out).mono ?_; rintro _ Wf ⟨rfl, hb1⟩; have cv2 := (hb1.cell (p := ⟨ab, ao + j * 4 + 2, none⟩) hab2).trans cv2; have cv3 := (hb1.cell (p := ⟨ab, ao + j * 4 + 3, none⟩) hab2).trans cv3; have r0 := (hb1.cell (p := ⟨rb, 0, none⟩) lrb).trans r0)
                     refine bodyPost_ret (v := .tuple #[.int .i64 j, .int .i64 k]) (by simp [results, Try.results26, go_sem]) rfl ?_
                     exact ⟨by rw [HT.out], bl2 hwe hb1⟩
                    )))
        · obtain rfl : k = chartsC s := by omega
          have d : decide (((chartsC s : Nat) : Int) < chartsN s.signs s.places.toNat) = false := by simp; omega
          have HT : Hid (keepsI s cs 0 = keepsI s (cs.drop (j + 1)) (j + 1)) := (by rw [HK.out, HD.out, firstN_none HN.out]; rfl : keepsI s cs 0 = keepsI s (cs.drop (j + 1)) (j + 1))
          clear hcin
          go_wp2_with (go_at_call 40; refine (rcharts_any s s.rv hsm _).mono ?_; rintro _ Wa ⟨rfl, hba⟩)
          go_roundw
          case rel => exact ⟨j + 1, by omega, by go_num, hb.trans ((bl2 hbi hba).mono hsz), HT⟩
          case measure => simp [intOf]; omega
    · have HT : Hid (keepsI s cs 0 = (-1, -1)) := (by rw [HK.out, List.drop_eq_nil_of_le (by omega)]; rfl : keepsI s cs 0 = (-1, -1))
      go_wp2
      refine bodyPost_ret (v := .tuple #[.int .i64 (-1), .int .i64 (-1)]) (by simp [results, Try.results26, go_sem]) rfl ?_
      exact ⟨by rw [HT.out], hbr⟩
end Go.Proofs.Ytidlmbajpbbilaa

/- almanac: the law AlmanacMeets, a part: no day is answered. -/
import Derived.Test.YtfbnllmmoaialaaZ21Fb
namespace Go.Proofs.Ytfbnllmmoaialaa
open Go.RowKit

set_option maxRecDepth 100000 in
set_option maxHeartbeats 8000000 in
theorem lwmeets_e (A : Option Addr) (c : Nat) (cs : List Cyc) (A2 : Option Addr) (c2 : Nat) (ps : List Int) (f m E : Int) (w : World) (hm0 : 0 ≤ m) (hm1 : m < 256) (hz : A = none → c = 0) (hz2 : A2 = none → c2 = 0) (hr : Sl Cyc.cells 2 w w.heap.size A cs) (hr2 : Sl intCell 1 w w.heap.size A2 ps) (hl : cs.length ≤ 8) (hl2 : ps.length ≤ 8) (hE : meetR cs ps f = (0, 0, E)) (hne : E ≠ 0) :
    Calls Try.prog 5 #[.slice A cs.length c, .agg (dialv A2 ps.length c2 f m)] w fun en w' => en = .returned (.bool true) ∧ Below w.heap.size w w' := by
  have HR := Lib.hid hr; have HR2 := Lib.hid hr2
  have d1 : decide ((8 : Int) < (cs.length : Int)) = false := by simp; omega
  have d2 : decide ((8 : Int) < (ps.length : Int)) = false := by simp; omega
  have HM := Lib.hid (fun (B1 B2 : Option Addr) (k1 k2 : Nat) W h1 h2 => meetV hE B1 B2 k1 k2 W (by omega) (by omega) h1 h2)
  have n1 : (E == 0) = false := by simp [hne]
  clear hr hr2 hE
  go_enter Try.func5, Try.ntmps5
  go_upto_region 3 with fail
  refine gen_w (fun W => Blk W w.heap.size (dialv A2 ps.length c2 f m) 67 ∧ Below w.heap.size w W) ⟨Blk.new _ _ _, by (repeat (first | exact Below.refl _ _ | assumption | (refine Below.alloc ?_ (by first | omega | (simp; omega) | (simp; done)) _) | (refine Below.setCell ?_ (by first | omega | (simp; omega) | (simp; done)) _) | (refine Below.drew ?_) | (refine belowN ?_ _) | (refine Below.trans ?_ (Below.mono ‹Below _ _ _› (by first | omega | (simp; omega) | (simp; done))))))⟩ ?_
  rintro w0 ⟨gB, hw0⟩
  (have c0 := gB.cell 0; have c1 := gB.cell 1; have c2' := gB.cell 2; simp at c0 c1 c2')
  have HRa := Lib.hid ((HR.out.below hw0).more hw0.size)
  have HRb := Lib.hid ((HR2.out.below hw0).more hw0.size)
  go_cut [5, 6, 7] (fun s5 s6 s7 wx => s5 = .int .i64 0 ∧ s6 = .int .i64 0 ∧ s7 = .int .i64 E ∧ Below w0.heap.size w0 wx)
  case first =>
    as_aux_lemma =>
      go_region_held3 (fun W' => W'.cell? ⟨w.heap.size, 0, none⟩ = some (.slice A2 ps.length c2) ∧ W'.cell? ⟨w.heap.size, 1, none⟩ = some (.int .i64 f)) (first | exact ⟨c0, c1⟩ | go_keep)
        (first |
          (go_at_call 32; (with_reducible refine (HM.out B1 B2 e1 e2 w2 ((hs1.below hb2).more hb2.size) hs2).mono ?_); rintro _ w3 ⟨rfl, hb3⟩; have hy3 : Below w0.heap.size w0 w3 := bl2 hy2 hb3; have gB3 := gB.below hy3 gB.lt; have c0 := gB3.cell 0; have c1 := gB3.cell 1; simp at c0 c1) |
          (go_at_call 31; (with_reducible refine (ints_any A2 c2 ps w1 (by omega) hz2 ((HRb.out.below hy1).more hy1.size)).mono ?_); rintro _ w2 ⟨B2, e2, rfl, hs2, -, hb2⟩; have hy2 : Below w0.heap.size w0 w2 := bl2 hy1 hb2; have gB2 := gB.below hy2 gB.lt; have c0 := gB2.cell 0; have c1 := gB2.cell 1; simp at c0 c1) |
          (go_at_call 30; (with_reducible refine (cycles_any A c cs _ (by omega) hz ((HRa.out.below (by (repeat (first | exact Below.refl _ _ | assumption | (refine Below.alloc ?_ (by first | omega | (simp; omega) | (simp; done)) _) | (refine Below.setCell ?_ (by first | omega | (simp; omega) | (simp; done)) _) | (refine Below.drew ?_) | (refine belowN ?_ _) | (refine Below.trans ?_ (Below.mono ‹Below _ _ _› (by first | omega | (simp; omega) | (simp; done)))))))).more (by first | omega | (simp; omega) | (simp; done)))).mono ?_); rintro _ w1 ⟨B1, e1, rfl, hs1, -, hb1⟩; have hy1 : Below w0.heap.size w0 w1 := Below.trans (by (repeat (first | exact Below.refl _ _ | assumption | (refine Below.alloc ?_ (by first | omega | (simp; omega) | (simp; done)) _) | (refine Below.setCell ?_ (by first | omega | (simp; omega) | (simp; done)) _) | (refine Below.drew ?_) | (refine belowN ?_ _) | (refine Below.trans ?_ (Below.mono ‹Below _ _ _› (by first | omega | (simp; omega) | (simp; done))))))) (hb1.mono (by simp)); have gB1 := gB.below hy1 gB.lt; have c0 := gB1.cell 0; have c1 := gB1.cell 1; simp at c0 c1))
      all_goals (
        go_wp2_with fail
        go_meet
        exact ⟨rfl, rfl, rfl, hy3⟩)
  case rest =>
    obtain ⟨rfl, rfl, rfl, hcx⟩ := hcut
    rename World => W5
    have hw := bl2 hw0 hcx
    have gB5 := gB.below hcx gB.lt
    clear hcx c0 c1 c2' HM HRa HRb hw0 gB
    clear w0
    have gB := gB5
    clear gB5
    (have c0 := gB.cell 0; have c1 := gB.cell 1; have c2' := gB.cell 2; simp at c0 c1 c2')
    go_upto_region 18 with fail
    by_cases q0 : f < 0
    · have q0' : decide (f < 0) = true := by simpa using q0
      go_wp2_with (go_at_call 17; refine (known_any _).mono ?_; rintro _ WK ⟨rfl, hbK⟩; have hw := bl2 hw hbK)
      refine bodyPost_ret (v := .bool true) (by simp [results, Try.results5, go_sem]) rfl ?_
      exact ⟨rfl, hw⟩
    · have q0' : decide (f < 0) = false := by simpa using q0
      by_cases q1 : 1000000 < f
      · have q1' : decide (1000000 < f) = true := by simpa using q1
        go_wp2_with (go_at_call 17; refine (known_any _).mono ?_; rintro _ WK ⟨rfl, hbK⟩; have hw := bl2 hw hbK)
        refine bodyPost_ret (v := .bool true) (by simp [results, Try.results5, go_sem]) rfl ?_
        exact ⟨rfl, hw⟩
      · have q1' : decide (1000000 < f) = false := by simpa using q1
        have wm : IntKind.i64.wrap m = m := IntWalk.i64_in _ ⟨by omega, by omega⟩
        have wf : IntKind.i64.wrap (f + m) = f + m := IntWalk.i64_in _ ⟨by omega, by omega⟩
        go_upto_region 21 with fail
        obtain ⟨t, ht⟩ : ∃ t, t = (if 1000000 < f + m then 1000000 else f + m) := ⟨_, rfl⟩
        rw [← ht]
        have ht1 : f ≤ t := by rw [ht]; split <;> omega
        have ht2 : t ≤ 1000000 := by rw [ht]; split <;> omega
        have ht0 : 0 ≤ t := by omega
        have HW5 := Lib.hid hw; have HGB := Lib.hid gB
        have hW5 : w.heap.size < W5.heap.size := gB.lt
        clear ht wm wf q0' q1' c0 c1 c2' hw gB
        obtain ⟨i0, hi, iz0, iz1, iz2⟩ := info_parts infoInt
        go_wp2_with fail
        go_loopw [15, 16, 17, 18] (fun pl i _ _ wr => LcRel cs t w (dialv A2 ps.length c2 f m) pl i wr) (fun _ i _ _ _ => cs.length - (intOf i).toNat)
        case atStart =>
          refine ⟨0, _, _, by omega, rfl, rfl, (fun _ h => (by cases h) : ∀ c ∈ cs.take 0, cycB c = true), ?_, HW5.out.alloc HW5.out.size _, HGB.out.alloc _⟩
          exact World.ownsRow_made (e := 3) (size := 1) W5 #[] 0 (base := w.heap.size + 1) (by omega) (by simp) (by simp)
        case round =>
          obtain ⟨k, Ap, cp, hk, rfl, rfl, HCY, HOW, hbw, gB⟩ := hrel
          by_cases hlt : k < cs.length
          · obtain ⟨ab, ao, rfl, hblk, hcell⟩ := (HR.out.below hbw.out).at_ (k := k) (fun _ => rfl) hlt
            have HZ : Hid (cs.take (k + 1) = cs.take k ++ [cs[k]]) := (List.take_succ_eq_append_getElem hlt : _ = _)
            obtain ⟨q, hq⟩ : ∃ q, q = cs[k] := ⟨_, rfl⟩
            rw [← hq] at hcell HZ
            obtain ⟨ql, qs⟩ := q
            have e0 : wr.cell? ⟨ab, ao + k * 2, none⟩ = some (.int .i64 ql) := hcell 0 _ rfl
            have e1 : wr.cell? ⟨ab, ao + k * 2 + 1, none⟩ = some (.int .i64 qs) := hcell 1 _ rfl
            have k0 : (0 : Int) ≤ (k : Int) := by omega
            have k1 : (k : Int) < (cs.length : Int) := by omega
            clear hcell hq
            cases hcy : cycB ⟨ql, qs⟩ with
            | false =>
              have HP := Lib.hid (fun W => positionV (c := ⟨ql, qs⟩) (d := t) (p := 0) (e := 2) (by simp [posR, hcy]) W)
              clear hcy
              go_upto_region 26 with (go_at_call 26; (with_reducible refine (HP.out _).mono ?_); rintro _ V1 ⟨rfl, hb1⟩)
              have hw := bl2 hbw.out hb1
              go_wp2_with (go_at_call 17; refine (known_any _).mono ?_; rintro _ WK ⟨rfl, hbK⟩; have hw := bl2 hw hbK)
              refine bodyPost_ret (v := .bool true) (by simp [results, Try.results5, go_sem]) rfl ?_
              exact ⟨rfl, hw⟩
            | true =>
              have HP := Lib.hid (fun W => positionV (c := ⟨ql, qs⟩) (d := t) (p := posI ⟨ql, qs⟩ t) (e := 0) (by simp [posR, hcy, inB, ht0, ht2]) W)
              have HCY2 : Hid (∀ c ∈ cs.take (k + 1), cycB c = true) := (by
                rw [HZ.out]
                intro c hc
                rcases List.mem_append.1 hc with h | h
                · exact HCY.out c h
                · rw [List.mem_singleton.1 h]; exact hcy : ∀ c ∈ cs.take (k + 1), cycB c = true)
              obtain ⟨x, hx⟩ : ∃ x, x = posI ⟨ql, qs⟩ t := ⟨_, rfl⟩
              rw [← hx] at HP
              have HX := Lib.hid hx
              clear hcy hx
              go_upto_region 28 with (go_at_call 26; (with_reducible refine (HP.out _).mono ?_); rintro _ V1 ⟨rfl, hb1⟩)
              have hbw := bl2 hbw.out hb1
              have gB := gB.below hb1 gB.lt
              have HB1 := Lib.hid hb1
              have HO1 : Hid (V1.ownsRow (w.heap.size + 1) 3 1 (.slice Ap k cp) k (((cs.take k).map fun c => posI c t).map (Value.int .i64))) := HOW.out.kept (grown_none hb1) (by cases h : (Value.slice Ap k cp).ownBlock <;> simp)
              clear hb1 e0 e1 HOW HP
              have HBW := Lib.hid hbw; have HGB := Lib.hid gB
              have hV1 : w.heap.size < V1.heap.size := gB.lt
              clear hbw gB
              go_wp2_with (at_builtin; go_loud (refine wpList_append_own _ rfl _ _ 38 rfl (w.heap.size + 1) 3 i0 (.int .i64 0) 1 8 uInts hi iz0 iz1 iz2 rfl (by decide) _ _ _ rfl (HO1.out.alloc _) ⟨V1.heap.size, 0, none⟩ 1 1 [.int .i64 x] rfl rfl (cell_one_new _ _ _) (by simp [Value.oneCell']) (by unfold maxLen; omega) (by omega) (by simp; omega) ?_); intro v' w1 hown1 hgrow _; refine Hid.out ?_; obtain ⟨Ap', cp', rfl⟩ := own_slice hown1; have HO2 := Lib.hid hown1; have HB2 : Hid (Below w.heap.size w w1) := (HBW.out.alloc HBW.out.size _).grown hgrow (by have := HBW.out.size; simp; omega) (fun g hg => by have := (HO1.out.lt g hg).1; omega); have HG2 : Hid (Blk w1 w.heap.size (dialv A2 ps.length c2 f m) 67) := (HGB.out.alloc _).grown hgrow (fun hg => by have := (HO1.out.lt _ hg.symm).1; omega); clear hown1 hgrow; refine Lib.hid ?_)
              go_roundw
              case rel =>
                refine ⟨k + 1, Ap', cp', by omega, by go_num, rfl, HCY2, ?_, HB2, HG2.out⟩
                have h2 := HO2.out
                show World.ownsRow _ _ _ _ _ _ _
                rw [HZ.out, List.map_append, List.map_append]
                rw [HX.out] at h2
                exact h2
              case measure => simp [intOf]; omega
          · obtain rfl : k = cs.length := by omega
            have HCA : Hid (∀ c ∈ cs, cycB c = true) := (by have h := HCY.out; rwa [List.take_of_length_le (Nat.le_refl _)] at h : ∀ c ∈ cs, cycB c = true)
            obtain ⟨D2, P2, hD2, hD3, hD4⟩ := meet_here (d := f) (t := t) hl HCA.out (by omega) ht1 ht2
            obtain ⟨pp, hpp⟩ : ∃ pp, pp = cs.map fun c => posI c t := ⟨_, rfl⟩
            rw [← hpp] at hD2
            have hpl : pp.length = cs.length := by rw [hpp]; simp
            have HOW2 : wr.ownsRow (w.heap.size + 1) 3 1 (.slice Ap cs.length cp) pp.length (flat intCell pp) := by
              rw [flat_int, hpl, hpp]
              have h := HOW.out
              rwa [List.take_of_length_le (Nat.le_refl _)] at h
            obtain ⟨A9, c9, e9, hs9, -⟩ := sl_of_ownN HOW2
            rw [hpl] at e9
            have e9' : Ap = A9 ∧ cp = c9 := by simpa using e9
            obtain ⟨rfl, rfl⟩ := e9'
            have HS9 := Lib.hid hs9
            have HM2 := Lib.hid (fun (B1 : Option Addr) (k1 : Nat) W h1 h2 => (by have h := meetV hD2 B1 Ap k1 cp W (by omega) (by omega) h1 h2; rw [hpl] at h; exact h : Calls Try.prog 32 #[.slice B1 cs.length k1, .slice Ap cs.length cp, .int .i64 f] W fun e w' => e = .returned (.tuple #[.int .i64 D2, .int .i64 P2, .int .i64 0]) ∧ Below W.heap.size W w'))
            have b1 : decide (f ≤ D2) = true := by simpa using hD3
            have b2 : decide (D2 ≤ t) = true := by simpa using hD4
            have hw0 := hbw.out
            have HRa := Lib.hid ((HR.out.below hw0).more hw0.size)
            have c1 := gB.cell 1
            simp at c1
            clear HOW HOW2 hs9 hD2 hpl hpp e9 HCY HCA hk hlt hbw
            go_upto_region 29 with fail
            go_cut [5, 7] (fun s5 s7 wx => s5 = .int .i64 D2 ∧ s7 = .int .i64 0 ∧ Below wr.heap.size wr wx)
            case first =>
              as_aux_lemma =>
                go_region_held3 (fun W' => W'.cell? ⟨w.heap.size, 1, none⟩ = some (.int .i64 f)) (first | exact c1 | go_keep)
                  (first |
                    (go_at_call 32; (with_reducible refine (HM2.out B1 e1 w1 hs1 ((HS9.out.below hy1).more hy1.size)).mono ?_); rintro _ w3 ⟨rfl, hb3⟩; have hy3 : Below wr.heap.size wr w3 := bl2 hy1 hb3; have gB3 := gB.below hy3 gB.lt; have c1 := gB3.cell 1; simp at c1) |
                    (go_at_call 30; (with_reducible refine (cycles_any A c cs _ (by omega) hz ((HRa.out.below (by (repeat (first | exact Below.refl _ _ | assumption | (refine Below.alloc ?_ (by first | omega | (simp; omega) | (simp; done)) _) | (refine Below.setCell ?_ (by first | omega | (simp; omega) | (simp; done)) _) | (refine Below.drew ?_) | (refine belowN ?_ _) | (refine Below.trans ?_ (Below.mono ‹Below _ _ _› (by first | omega | (simp; omega) | (simp; done)))))))).more (by first | omega | (simp; omega) | (simp; done)))).mono ?_); rintro _ w1 ⟨B1, e1, rfl, hs1, -, hb1⟩; have hy1 : Below wr.heap.size wr w1 := Below.trans (by (repeat (first | exact Below.refl _ _ | assumption | (refine Below.alloc ?_ (by first | omega | (simp; omega) | (simp; done)) _) | (refine Below.setCell ?_ (by first | omega | (simp; omega) | (simp; done)) _) | (refine Below.drew ?_) | (refine belowN ?_ _) | (refine Below.trans ?_ (Below.mono ‹Below _ _ _› (by first | omega | (simp; omega) | (simp; done))))))) (hb1.mono (by simp)); have gB1 := gB.below hy1 gB.lt; have c1 := gB1.cell 1; simp at c1))
                all_goals (
                  go_wp2_with fail
                  go_meet
                  exact ⟨rfl, rfl, hy3⟩)
            case rest =>
              obtain ⟨rfl, rfl, hcx⟩ := hcut
              rename World => W7
              have hw := bl2 hw0 hcx
              have gB7 := gB.below hcx gB.lt
              clear c1
              have c1 := gB7.cell 1
              simp at c1
              clear hcx gB HRa HM2 HS9
              go_wp2_with (go_at_call 17; refine (known_any _).mono ?_; rintro _ WK ⟨rfl, hbK⟩; have hw := bl2 hw hbK)
              refine bodyPost_ret (v := .bool true) (by simp [results, Try.results5, go_sem]) rfl ?_
              exact ⟨rfl, hw⟩
end Go.Proofs.Ytfbnllmmoaialaa

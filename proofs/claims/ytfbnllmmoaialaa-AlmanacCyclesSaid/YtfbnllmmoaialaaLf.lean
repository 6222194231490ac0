/- almanac: the law AlmanacCycles returns true. -/
import Derived.Test.YtfbnllmmoaialaaZ21Fb
import Derived.Test.YtfbnllmmoaialaaZ22RfA
namespace Go.Proofs.Ytfbnllmmoaialaa
open Go.RowKit

theorem perP_pos : ∀ (cs : List Cyc) (n : Int), (∀ c ∈ cs, cycB c = true) → 1 ≤ n → 1 ≤ perP cs n
  | [], _, _, h => h
  | c :: cs, n, hc, h => perP_pos cs _ (fun x hx => hc x (.tail _ hx)) (per_pos (hc c (.head _)) h)
/-- the day that is found lies within one period -/
theorem meet_near {cs : List Cyc} {ps : List Int} {d D P : Int} (h : MeetOk cs ps d D P) : D < d + P := by
  by_cases hlt : D < d + P
  · exact hlt
  · have hp := h.per
    refine absurd (fun q hq => ?_) (h.first (D - P) (by omega) (by omega))
    obtain ⟨i, hi, e⟩ := List.mem_iff_getElem.1 hq
    have hi2 : i < cs.length := by have := h.same; simp at hi; omega
    obtain ⟨h1, h2, -, -, hc⟩ := h.at_ hi2
    simp at e
    rw [← e]
    show posI cs[i] (D - P) = _
    rw [← h1, posI_eq hc, show D - P - D = -P by omega]
    exact (Int.dvd_neg).2 h2
set_option maxRecDepth 100000 in
set_option maxHeartbeats 8000000 in
theorem lwcycles_in (A : Option Addr) (c : Nat) (cs : List Cyc) (A2 : Option Addr) (c2 : Nat) (ps : List Int) (f : Int) (w : World) (hz : A = none → c = 0) (hz2 : A2 = none → c2 = 0) (hr : Sl Cyc.cells 2 w w.heap.size A cs) (hr2 : Sl intCell 1 w w.heap.size A2 ps) (hl : cs.length ≤ 10) (hl2 : ps.length ≤ 10) :
    Calls Try.prog 4 #[.slice A cs.length c, .slice A2 ps.length c2, .int .i64 f] w fun en w' => en = .returned (.bool true) ∧ Below w.heap.size w w' := by
  have HR := Lib.hid hr; have HR2 := Lib.hid hr2
  have d1 : decide ((10 : Int) < (cs.length : Int)) = false := by simp; omega
  have d2 : decide ((10 : Int) < (ps.length : Int)) = false := by simp; omega
  obtain ⟨⟨D, P, E⟩, hm⟩ : ∃ z, meetR cs ps f = z := ⟨_, rfl⟩
  have HMR := Lib.hid hm
  have HM := Lib.hid (fun (B1 B2 : Option Addr) (k1 k2 : Nat) W h1 h2 => meetV hm B1 B2 k1 k2 W (by omega) (by omega) h1 h2)
  have HRM := Lib.hid (fun W (hW : Below w.heap.size w W) => rmeet_any A c cs A2 c2 ps f W (by omega) ((HR.out.below hW).more hW.size) ((HR2.out.below hW).more hW.size))
  obtain ⟨re, hre⟩ : ∃ z, z = rmE cs ps f := ⟨_, rfl⟩
  rw [← hre] at HRM
  have HRE := Lib.hid hre
  have HSA := Lib.hid (fun (B : Option Addr) (k : Nat) W (h1 : Sl intCell 1 W W.heap.size B ps) (hW : Below w.heap.size w W) => (by
    have h := same_any B A2 k c2 ps ps W (by omega) (by omega) h1 ((HR2.out.below hW).more hW.size)
    rw [show decide (ps = ps) = true by simp] at h
    exact h : Calls Try.prog 25 #[.slice B ps.length k, .slice A2 ps.length c2] W fun e w' => e = .returned (.bool true) ∧ Below W.heap.size W w'))
  have hw := Below.refl w.heap.size w
  clear hr hr2 hm hre
  go_enter Try.func4, Try.ntmps4
  go_upto_if 28 with fail
  go_cut [] (fun wx => Below w.heap.size w wx)
  case first =>
    as_aux_lemma =>
      clear HMR HM HRM HRE HSA
      have gW : Hid (w.heap.size ≤ w.heap.size) := (Nat.le_refl _ : w.heap.size ≤ w.heap.size)
      by_cases h0 : 0 < cs.length
      · have t0 : decide ((0 : Int) < (cs.length : Int)) = true := by simp; omega
        obtain ⟨ab, ao, rfl, hblk, hcell⟩ := HR.out.at_ (k := 0) (fun _ => rfl) h0
        obtain ⟨q, hq⟩ : ∃ q, q = cs[0] := ⟨_, rfl⟩
        rw [← hq] at hcell
        obtain ⟨ql, qs⟩ := q
        have e0 : w.cell? ⟨ab, ao, none⟩ = some (.int .i64 ql) := by have := hcell 0 _ rfl; simpa using this
        have e1 : w.cell? ⟨ab, ao + 1, none⟩ = some (.int .i64 qs) := by have := hcell 1 _ rfl; simpa using this
        have k0 : (0 : Int) ≤ (0 : Int) := by omega
        have k1 : (0 : Int) < (cs.length : Int) := by omega
        clear hcell hq
        cases hcy : cycB ⟨ql, qs⟩ with
        | false =>
          have HP := Lib.hid (fun W => positionV (c := ⟨ql, qs⟩) (d := f) (p := 0) (e := 2) (by simp [posR, hcy]) W)
          have HC := Lib.hid (fun W => rcycle_val hcy W)
          clear hcy
          go_wp2_with (first | (go_at_call 26; (with_reducible refine (HP.out _).mono ?_); rintro _ V1 ⟨rfl, hb1⟩; have hw := bl2 hw hb1; have e0 := (hb1.cell (p := ⟨ab, ao, none⟩) (by have := gW.out; show ab < _; omega)).trans e0; have e1 := (hb1.cell (p := ⟨ab, ao + 1, none⟩) (by have := gW.out; show ab < _; omega)).trans e1; have gW : Hid (w.heap.size ≤ V1.heap.size) := (hw.size : w.heap.size ≤ V1.heap.size)) | (go_at_call 27; (with_reducible refine (HC.out _).mono ?_); rintro _ V2 ⟨rfl, hb1⟩; have hw := bl2 hw hb1; have e0 := (hb1.cell (p := ⟨ab, ao, none⟩) (by have := gW.out; show ab < _; omega)).trans e0; have e1 := (hb1.cell (p := ⟨ab, ao + 1, none⟩) (by have := gW.out; show ab < _; omega)).trans e1; have gW : Hid (w.heap.size ≤ V2.heap.size) := (hw.size : w.heap.size ≤ V2.heap.size)))
          go_meet
          exact hw
        | true =>
          have HC := Lib.hid (fun W => rcycle_val hcy W)
          cases hd : inB f 0 1000000 with
          | false =>
            have HP := Lib.hid (fun W => positionV (c := ⟨ql, qs⟩) (d := f) (p := 0) (e := 3) (by simp [posR, hcy, hd]) W)
            have HDV := Lib.hid (fun W => rday_val hd W)
            clear hcy hd
            go_wp2_with (first | (go_at_call 26; (with_reducible refine (HP.out _).mono ?_); rintro _ V1 ⟨rfl, hb1⟩; have hw := bl2 hw hb1; have e0 := (hb1.cell (p := ⟨ab, ao, none⟩) (by have := gW.out; show ab < _; omega)).trans e0; have e1 := (hb1.cell (p := ⟨ab, ao + 1, none⟩) (by have := gW.out; show ab < _; omega)).trans e1; have gW : Hid (w.heap.size ≤ V1.heap.size) := (hw.size : w.heap.size ≤ V1.heap.size)) | (go_at_call 27; (with_reducible refine (HC.out _).mono ?_); rintro _ V2 ⟨rfl, hb1⟩; have hw := bl2 hw hb1; have e0 := (hb1.cell (p := ⟨ab, ao, none⟩) (by have := gW.out; show ab < _; omega)).trans e0; have e1 := (hb1.cell (p := ⟨ab, ao + 1, none⟩) (by have := gW.out; show ab < _; omega)).trans e1; have gW : Hid (w.heap.size ≤ V2.heap.size) := (hw.size : w.heap.size ≤ V2.heap.size)) | (go_at_call 28; (with_reducible refine (HDV.out _).mono ?_); rintro _ _ ⟨rfl, rfl⟩))
            go_meet
            exact hw
          | true =>
            obtain ⟨f0, f1⟩ := inB_iff.1 hd
            have HP := Lib.hid (fun W => positionV (c := ⟨ql, qs⟩) (d := f) (p := posI ⟨ql, qs⟩ f) (e := 0) (by simp [posR, hcy, hd]) W)
            have HQ := Lib.hid (fun W => rposition_any ql qs f W hcy f0 (by omega))
            have HDV := Lib.hid (fun W => rday_val hd W)
            obtain ⟨x, hx⟩ : ∃ x, x = posI ⟨ql, qs⟩ f := ⟨_, rfl⟩
            rw [← hx] at HP HQ
            clear hcy hd hx
            go_wp2_with (first | (go_at_call 26; (with_reducible refine (HP.out _).mono ?_); rintro _ V1 ⟨rfl, hb1⟩; have hw := bl2 hw hb1; have e0 := (hb1.cell (p := ⟨ab, ao, none⟩) (by have := gW.out; show ab < _; omega)).trans e0; have e1 := (hb1.cell (p := ⟨ab, ao + 1, none⟩) (by have := gW.out; show ab < _; omega)).trans e1; have gW : Hid (w.heap.size ≤ V1.heap.size) := (hw.size : w.heap.size ≤ V1.heap.size)) | (go_at_call 27; (with_reducible refine (HC.out _).mono ?_); rintro _ V2 ⟨rfl, hb1⟩; have hw := bl2 hw hb1; have e0 := (hb1.cell (p := ⟨ab, ao, none⟩) (by have := gW.out; show ab < _; omega)).trans e0; have e1 := (hb1.cell (p := ⟨ab, ao + 1, none⟩) (by have := gW.out; show ab < _; omega)).trans e1; have gW : Hid (w.heap.size ≤ V2.heap.size) := (hw.size : w.heap.size ≤ V2.heap.size)) | (go_at_call 28; (with_reducible refine (HDV.out _).mono ?_); rintro _ _ ⟨rfl, rfl⟩) | (go_at_call 29; (with_reducible refine (HQ.out _).mono ?_); rintro _ V3 ⟨rfl, hb1⟩; have hw := bl2 hw hb1))
            go_meet
            exact hw
      · have t0 : decide ((0 : Int) < (cs.length : Int)) = false := decide_eq_false (by omega)
        go_wp2_with fail
        go_meet
        exact hw
  case rest =>
    have hw2 := hcut
    rename World => W2
    clear hw
    have hw := hw2
    clear hw2
    have HRa := Lib.hid ((HR.out.below hw).more hw.size)
    have HRb := Lib.hid ((HR2.out.below hw).more hw.size)
    go_upto_region 14 with (first | (go_at_call 31; (with_reducible refine (ints_any A2 c2 ps _ (by omega) hz2 ((HRb.out.below hb1).more hb1.size)).mono ?_); rintro _ W4 ⟨B2, e2, rfl, hs2, -, hb2⟩) | (go_at_call 30; (with_reducible refine (cycles_any A c cs _ (by omega) hz HRa.out).mono ?_); rintro _ W3 ⟨B1, e1, rfl, hs1, -, hb1⟩))
    have hw4 := bl2 (bl2 hw hb1) hb2
    have HS1 := Lib.hid ((hs1.below hb2).more hb2.size)
    have HS2 := Lib.hid hs2
    clear hw hs1 hs2 hb1 hb2 HRa HRb
    have hw := hw4
    clear hw4
    go_upto_region 15 with (go_at_call 32; (with_reducible refine (HM.out _ _ _ _ _ HS1.out HS2.out).mono ?_); rintro _ W5 ⟨rfl, hb5⟩)
    have hw5 := bl2 hw hb5
    have HS1b := Lib.hid ((HS1.out.below hb5).more hb5.size)
    have HS2b := Lib.hid ((HS2.out.below hb5).more hb5.size)
    clear hw hb5 HS1 HS2 HM
    have hw := hw5
    clear hw5
    go_upto_region 18 with (go_at_call 25; (with_reducible refine (HSA.out _ _ _ HS2b.out hw).mono ?_); rintro _ W6 ⟨rfl, hb6⟩)
    have hw6 := bl2 hw hb6
    have HS1 := Lib.hid ((HS1b.out.below hb6).more hb6.size)
    clear hw hb6 HS1b HS2b HSA
    have hw := hw6
    clear hw6
    go_loopw [14] (fun i wr => ∃ k : Nat, k ≤ cs.length ∧ i = .int .i64 k ∧ Hid (Below W6.heap.size W6 wr)) (fun i _ => cs.length - (intOf i).toNat)
    case atStart => exact ⟨0, by omega, rfl, Below.refl _ _⟩
    case round =>
      obtain ⟨k, hk, rfl, hbw⟩ := hrel
      by_cases hlt : k < cs.length
      · have hb := hbw.out
        obtain ⟨ab, ao, rfl, hblk, hcell⟩ := (HR.out.below (bl2 hw hb)).at_ (k := k) (fun _ => rfl) hlt
        obtain ⟨xb, xo, rfl, hxblk, hxcell⟩ := (HS1.out.below hb).at_ (k := k) (fun _ => rfl) hlt
        obtain ⟨q, hq⟩ : ∃ q, q = cs[k] := ⟨_, rfl⟩
        rw [← hq] at hcell hxcell
        obtain ⟨ql, qs⟩ := q
        have e0 : wr.cell? ⟨ab, ao + k * 2, none⟩ = some (.int .i64 ql) := hcell 0 _ rfl
        have e1 : wr.cell? ⟨ab, ao + k * 2 + 1, none⟩ = some (.int .i64 qs) := hcell 1 _ rfl
        have x0 : wr.cell? ⟨xb, xo + k * 2, none⟩ = some (.int .i64 ql) := hxcell 0 _ rfl
        have x1 : wr.cell? ⟨xb, xo + k * 2 + 1, none⟩ = some (.int .i64 qs) := hxcell 1 _ rfl
        have k0 : (0 : Int) ≤ (k : Int) := by omega
        have k1 : (k : Int) < (cs.length : Int) := by omega
        clear hcell hxcell hq hbw
        go_upto_region 20 with fail
        (refine wp_region_ext (by kernel_rfl) (by kernel_rfl) ?_; (repeat (go_big_quiet_step((fail)))); with_reducible refine wpQuiet_nil ?_; intro w1 hw1; have hb1 := ext_below hw1; clear hw1)
        go_wp2_with fail
        go_roundw
        case rel => exact ⟨k + 1, by omega, by go_num, bl2 hb hb1⟩
        case measure => simp [intOf]; omega
      · obtain rfl : k = cs.length := by omega
        have hwr := bl2 hw hbw.out
        clear hw hbw HS1
        have hw := hwr
        clear hwr hk hlt
        go_upto_region 23 with (go_at_call 33; (with_reducible refine (HRM.out _ hw).mono ?_); rintro _ W7 ⟨rfl, hb7⟩)
        have hw7 := bl2 hw hb7
        clear hw hb7 HRM
        have hw := hw7
        clear hw7
        by_cases hr0 : re = 0
        · have hA := rmE_0 (cs := cs) (ps := ps) (d := f) (by rw [← HRE.out]; exact hr0)
          subst hr0
          obtain ⟨a1, a2, a3, a4, a5⟩ := id hA
          obtain ⟨f0, f1⟩ := inB_iff.1 a5
          have HCC : Hid (∀ c ∈ cs, cycB c = true) := (List.all_eq_true.1 a2 : ∀ c ∈ cs, cycB c = true)
          have HPE := Lib.hid (fun W (hW : Below w.heap.size w W) => rperiod_any A c cs W a1 HCC.out ((HR.out.below hW).more hW.size))
          have HLN := Lib.hid a3
          have HSU0 := Lib.hid (fun X (X0 : 0 ≤ X) (X1 : X ≤ 2000000) W (hW : Below w.heap.size w W) => rsuits_any A c cs A2 c2 ps X W a1 HCC.out HLN.out X0 X1 ((HR.out.below hW).more hW.size) ((HR2.out.below hW).more hW.size))
          have hfit := meetR_fit hA
          have HA := Lib.hid hA
          have hML : meetS (meetL (cs.zip ps) f 1) = (D, P, E) := by rw [← hfit]; exact HMR.out
          have HPL : Hid (-9000000000000000000 ≤ perP cs 1) := (by have := perP_pos cs 1 HCC.out (by omega); omega : -9000000000000000000 ≤ perP cs 1)
          have HPP := Lib.hid (fun D' P' h => perP_meet cs ps f 1 D' P' a3 h)
          obtain ⟨P0, hP0⟩ : ∃ z, z = perP cs 1 := ⟨_, rfl⟩
          rw [← hP0] at HPE HPP HPL
          have HML := Lib.hid hML
          clear a2 a3 a4 a5 hA hfit hML hP0 HRE
          by_cases hbig : 100000 < P0
          · have t1 : decide (100000 < P0) = true := by simpa using hbig
            go_upto_region 26 with (go_at_call 34; (with_reducible refine (HPE.out _ hw).mono ?_); rintro _ V1 ⟨rfl, hb1⟩; have hw := bl2 hw hb1)
            go_wp2_with (go_at_call 17; refine (known_any _).mono ?_; rintro _ WK ⟨rfl, hbK⟩; have hw := bl2 hw hbK)
            refine bodyPost_ret (v := .bool true) (by simp [results, Try.results4, go_sem]) rfl ?_
            exact ⟨rfl, hw⟩
          · have t1 : decide (100000 < P0) = false := by simpa using hbig
            have hP5 : P0 ≤ 100000 := by omega
            go_upto_region 28 with (go_at_call 34; (with_reducible refine (HPE.out _ hw).mono ?_); rintro _ V1 ⟨rfl, hb1⟩; have hw := bl2 hw hb1)
            clear hb1 t1 hbig
            rcases meetS_cases (meetL (cs.zip ps) f 1) with ⟨hs1, hs2⟩ | ⟨D', P', hs1, hs2⟩
            · have h3 := HML.out
              rw [hs1] at h3
              obtain ⟨rfl, h4⟩ := Prod.mk.inj h3
              obtain ⟨rfl, rfl⟩ := Prod.mk.inj h4
              have HNO : Hid (∀ X, f ≤ X → X ≤ 1000000 → suitsB cs ps X = false) := (fun X h5 h6 => by
                have h7 := meetL_none (cs.zip ps) [] f 1 (zip_cyc HCC.out) (by omega) (prog_nil f) hs2 X h5 h6
                cases h8 : suitsB cs ps X with
                | false => rfl
                | true => exact absurd (suitsB_iff.1 h8) h7 : ∀ X, f ≤ X → X ≤ 1000000 → suitsB cs ps X = false)
              have hP1 : -9000000000000000000 ≤ P0 := HPL.out
              clear h3 h4 hs1 hs2 HML HMR HPP HA
              rename World => W8
              go_loopw [16] (fun x wr => ∃ X : Int, x = .int .i64 X ∧ f ≤ X ∧ X ≤ 1000001 ∧ Hid (Below w.heap.size w wr)) (fun x _ => (1000001 - intOf x).toNat)
              case atStart => exact ⟨f, rfl, by omega, by omega, hw⟩
              case round =>
                clear hw
                obtain ⟨X, rfl, hX0, hX1, hbw⟩ := hrel
                have hw := hbw.out
                clear hbw
                have v0 : IntKind.i64.wrap (f + P0) = f + P0 := IntWalk.i64_in _ ⟨by omega, by omega⟩
                by_cases hx1 : X < f + P0
                · have t2 : decide (X < f + P0) = true := by simpa using hx1
                  by_cases hx2 : X ≤ 1000000
                  · have t3 : decide (X ≤ 1000000) = true := by simpa using hx2
                    have v1 : IntKind.i64.wrap (X + 1) = X + 1 := IntWalk.i64_in _ ⟨by omega, by omega⟩
                    have HSU := Lib.hid (HSU0.out X (by omega) (by omega))
                    rw [HNO.out X hX0 hx2] at HSU
                    go_wp2_with (first | (go_at_call 34; (with_reducible refine (HPE.out _ hw).mono ?_); rintro _ V1 ⟨rfl, hb1⟩; have hw := bl2 hw hb1) | (go_at_call 35; (with_reducible refine (HSU.out _ hw).mono ?_); rintro _ V2 ⟨rfl, hb2⟩; have hw := bl2 hw hb2))
                    go_roundw
                    case rel => exact ⟨X + 1, rfl, by omega, by omega, hw⟩
                    case measure => simp only [intOf]; omega
                  · have t3 : decide (X ≤ 1000000) = false := by simpa using hx2
                    go_upto_region 32 with (go_at_call 34; (with_reducible refine (HPE.out _ hw).mono ?_); rintro _ V1 ⟨rfl, hb1⟩; have hw := bl2 hw hb1)
                    go_wp2_with (go_at_call 17; refine (known_any _).mono ?_; rintro _ WK ⟨rfl, hbK⟩; have hw := bl2 hw hbK)
                    refine bodyPost_ret (v := .bool true) (by simp [results, Try.results4, go_sem]) rfl ?_
                    exact ⟨rfl, hw⟩
                · have t2 : decide (X < f + P0) = false := by simpa using hx1
                  go_upto_region 32 with (go_at_call 34; (with_reducible refine (HPE.out _ hw).mono ?_); rintro _ V1 ⟨rfl, hb1⟩; have hw := bl2 hw hb1)
                  go_wp2_with (go_at_call 17; refine (known_any _).mono ?_; rintro _ WK ⟨rfl, hbK⟩; have hw := bl2 hw hbK)
                  refine bodyPost_ret (v := .bool true) (by simp [results, Try.results4, go_sem]) rfl ?_
                  exact ⟨rfl, hw⟩
            · have h3 := HML.out
              rw [hs2] at h3
              obtain ⟨rfl, h4⟩ := Prod.mk.inj h3
              obtain ⟨rfl, rfl⟩ := Prod.mk.inj h4
              obtain rfl := HPP.out _ _ hs1
              obtain ⟨hok, -⟩ := meetR_0 HMR.out
              have hle := hok.le; have hbd := hok.bd; have hper := hok.per
              have HYES : Hid (suitsB cs ps D' = true) := (suitsB_iff.2 (by have := hok.stands 0; simpa using this) : suitsB cs ps D' = true)
              have HNO : Hid (∀ X, f ≤ X → X < D' → suitsB cs ps X = false) := (fun X h5 h6 => by
                have h7 := hok.first X h5 h6
                cases h8 : suitsB cs ps X with
                | false => rfl
                | true => exact absurd (suitsB_iff.1 h8) h7 : ∀ X, f ≤ X → X < D' → suitsB cs ps X = false)
              have hD : D' < f + P' := meet_near hok
              clear h3 h4 hs1 hs2 HML HMR HPP HA hok
              rename World => W8
              go_loopw [16] (fun x wr => ∃ X : Int, x = .int .i64 X ∧ f ≤ X ∧ X ≤ D' ∧ Hid (Below w.heap.size w wr)) (fun x _ => (D' + 1 - intOf x).toNat)
              case atStart => exact ⟨f, rfl, by omega, by omega, hw⟩
              case round =>
                clear hw
                obtain ⟨X, rfl, hX0, hX1, hbw⟩ := hrel
                have hw := hbw.out
                clear hbw
                have v0 : IntKind.i64.wrap (f + P') = f + P' := IntWalk.i64_in _ ⟨by omega, by omega⟩
                have t2 : decide (X < f + P') = true := by simp; omega
                have t3 : decide (X ≤ 1000000) = true := by simp; omega
                have v1 : IntKind.i64.wrap (X + 1) = X + 1 := IntWalk.i64_in _ ⟨by omega, by omega⟩
                have HSU := Lib.hid (HSU0.out X (by omega) (by omega))
                by_cases hx : X < D'
                · rw [HNO.out X hX0 hx] at HSU
                  go_wp2_with (first | (go_at_call 34; (with_reducible refine (HPE.out _ hw).mono ?_); rintro _ V1 ⟨rfl, hb1⟩; have hw := bl2 hw hb1) | (go_at_call 35; (with_reducible refine (HSU.out _ hw).mono ?_); rintro _ V2 ⟨rfl, hb2⟩; have hw := bl2 hw hb2))
                  go_roundw
                  case rel => exact ⟨X + 1, rfl, by omega, by omega, hw⟩
                  case measure => simp only [intOf]; omega
                · obtain rfl : X = D' := by omega
                  rw [HYES.out] at HSU
                  go_upto_region 31 with (first | (go_at_call 34; (with_reducible refine (HPE.out _ hw).mono ?_); rintro _ V1 ⟨rfl, hb1⟩; have hw := bl2 hw hb1) | (go_at_call 35; (with_reducible refine (HSU.out _ hw).mono ?_); rintro _ V2 ⟨rfl, hb2⟩; have hw := bl2 hw hb2))
                  go_wp2_with (first | (go_at_call 34; (with_reducible refine (HPE.out _ hw).mono ?_); rintro _ V1 ⟨rfl, hb1⟩; have hw := bl2 hw hb1) | (go_at_call 17; refine (known_any _).mono ?_; rintro _ WK ⟨rfl, hbK⟩; have hw := bl2 hw hbK))
                  refine bodyPost_ret (v := .bool true) (by simp [results, Try.results4, go_sem]) rfl ?_
                  exact ⟨rfl, hw⟩
        · have h3 := rmE_n0 (cs := cs) (ps := ps) (d := f) (by rw [← HRE.out]; exact hr0)
          rw [← HRE.out, HMR.out] at h3
          obtain ⟨rfl, h4⟩ := Prod.mk.inj h3
          obtain ⟨rfl, rfl⟩ := Prod.mk.inj h4
          have t1 : (E != 0) = true := by simpa using hr0
          clear h3 h4 hr0 HMR HRE
          go_upto_region 24 with fail
          go_wp2_with (go_at_call 17; refine (known_any _).mono ?_; rintro _ WK ⟨rfl, hbK⟩; have hw := bl2 hw hbK)
          refine bodyPost_ret (v := .bool true) (by simp [results, Try.results4, go_sem]) rfl ?_
          exact ⟨rfl, hw⟩
set_option maxRecDepth 100000 in
set_option maxHeartbeats 4000000 in
theorem lwcycles_any (A : Option Addr) (c : Nat) (cs : List Cyc) (A2 : Option Addr) (c2 : Nat) (ps : List Int) (f : Int) (w : World) (hz : A = none → c = 0) (hz2 : A2 = none → c2 = 0) (hr : Sl Cyc.cells 2 w w.heap.size A cs) (hr2 : Sl intCell 1 w w.heap.size A2 ps) :
    Calls Try.prog 4 #[.slice A cs.length c, .slice A2 ps.length c2, .int .i64 f] w fun en w' => en = .returned (.bool true) ∧ Below w.heap.size w w' := by
  by_cases hl : cs.length ≤ 10
  · by_cases hl2 : ps.length ≤ 10
    · exact lwcycles_in A c cs A2 c2 ps f w hz hz2 hr hr2 hl hl2
    · have d1 : decide ((10 : Int) < (cs.length : Int)) = false := by simp; omega
      have d2 : decide ((10 : Int) < (ps.length : Int)) = true := by simp; omega
      have hw := Below.refl w.heap.size w
      clear hr hr2
      go_enter Try.func4, Try.ntmps4
      go_wp2_with (go_at_call 17; refine (known_any _).mono ?_; rintro _ WK ⟨rfl, hbK⟩; have hw := bl2 hw hbK)
      refine bodyPost_ret (v := .bool true) (by simp [results, Try.results4, go_sem]) rfl ?_
      exact ⟨rfl, hw⟩
  · have d1 : decide ((10 : Int) < (cs.length : Int)) = true := by simp; omega
    have hw := Below.refl w.heap.size w
    clear hr hr2
    go_enter Try.func4, Try.ntmps4
    go_wp2_with (go_at_call 17; refine (known_any _).mono ?_; rintro _ WK ⟨rfl, hbK⟩; have hw := bl2 hw hbK)
    refine bodyPost_ret (v := .bool true) (by simp [results, Try.results4, go_sem]) rfl ?_
    exact ⟨rfl, hw⟩
end Go.Proofs.Ytfbnllmmoaialaa

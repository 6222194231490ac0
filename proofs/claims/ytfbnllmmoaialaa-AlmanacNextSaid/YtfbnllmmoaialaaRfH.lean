/- almanac: the reference's LunarDay. -/
import Derived.Test.YtfbnllmmoaialaaZ22Hf
import Derived.Test.YtfbnllmmoaialaaZ23Pd
import Derived.Deep.DeepCutAuto
namespace Go.Proofs.Ytfbnllmmoaialaa
open Go.RowKit

theorem nameM_bd {r : Lun} {y t : Int} (t0 : 0 ≤ t) : -1 ≤ (nameM r y t).1 ∧ (nameM r y t).1 ≤ t := by
  unfold nameM; split <;> simp only <;> omega
set_option maxRecDepth 100000 in
set_option maxHeartbeats 8000000 in
theorem rlunarday_k (d p f m y s l y0 m0 d0 : Int) (k0 : Bool) (w : World) : Calls Try.prog 48 #[.agg #[.int .i64 d, .int .i64 p, .int .i64 f, .int .i64 m, .int .i64 y, .int .i64 s, .int .i64 l], .agg #[.int .i64 y0, .int .i64 m0, .int .i64 d0, .bool k0]] w fun en w' => en = .returned (.tuple #[.int .i64 (ldayR ⟨d, p, f, m, y, s, l⟩ ⟨y0, m0, d0, k0⟩).1, .int .i64 (ldayR ⟨d, p, f, m, y, s, l⟩ ⟨y0, m0, d0, k0⟩).2]) ∧ Below w.heap.size w w' := by
  cases hs : lunB ⟨d, p, f, m, y, s, l⟩ with
  | false =>
    have HSV := Lib.hid (fun W => rlunar_val hs W)
    have HT : Hid (ldayR ⟨d, p, f, m, y, s, l⟩ ⟨y0, m0, d0, k0⟩ = (0, 2)) := (by simp [ldayR, hs] : ldayR ⟨d, p, f, m, y, s, l⟩ _ = _)
    clear hs
    go_enter Try.func48, Try.ntmps48
    go_upto_region 1 with fail
    refine gen_w (fun W => Blk W w.heap.size #[.int .i64 d, .int .i64 p, .int .i64 f, .int .i64 m, .int .i64 y, .int .i64 s, .int .i64 l] 26 ∧ Blk W (w.heap.size + 1) #[.int .i64 y0, .int .i64 m0, .int .i64 d0, .bool k0] 77 ∧ Below w.heap.size w W) ⟨(Blk.at_ rfl).alloc _, Blk.at_ (by simp), by (repeat (first | exact Below.refl _ _ | assumption | (refine Below.alloc ?_ (by first | omega | (simp; omega) | (simp; done)) _) | (refine Below.setCell ?_ (by first | omega | (simp; omega) | (simp; done)) _) | (refine Below.drew ?_) | (refine belowN ?_ _) | (refine Below.trans ?_ (Below.mono ‹Below _ _ _› (by first | omega | (simp; omega) | (simp; done))))))⟩ ?_
    rintro V0 ⟨g0, g1, hw⟩
    (have c0 := g0.cell 0; have c1 := g0.cell 1; have c2 := g0.cell 2; have c3 := g0.cell 3; have c4 := g0.cell 4; have c5 := g0.cell 5; have c6 := g0.cell 6; have s0 := g1.cell 0; have s1 := g1.cell 1; have s2 := g1.cell 2; have s3 := g1.cell 3; simp at c0 c1 c2 c3 c4 c5 c6 s0 s1 s2 s3)
    go_wp2_with (go_at_call 49; (with_reducible refine (HSV.out _).mono ?_); rintro _ V1 ⟨rfl, hb1⟩; (have hw := bl2 hw hb1; have g0 := g0.below hb1 g0.lt; have g1 := g1.below hb1 g1.lt; (have c0 := g0.cell 0; have c1 := g0.cell 1; have c2 := g0.cell 2; have c3 := g0.cell 3; have c4 := g0.cell 4; have c5 := g0.cell 5; have c6 := g0.cell 6; have s0 := g1.cell 0; have s1 := g1.cell 1; have s2 := g1.cell 2; have s3 := g1.cell 3; simp at c0 c1 c2 c3 c4 c5 c6 s0 s1 s2 s3)))
    refine bodyPost_ret (v := .tuple #[.int .i64 0, .int .i64 2]) (by simp [results, Try.results48, go_sem]) rfl ?_
    rw [HT.out]; exact ⟨rfl, hw⟩
  | true =>
    have HSV := Lib.hid (fun W => rlunar_val hs W)
    have HLB := Lib.hid hs
    have ok := lunB_iff.1 hs
    have HOK := Lib.hid ok
    cases hy : inB y0 0 4000 with
    | false =>
      have HYV := Lib.hid (fun W => rin_val hy W)
      have HT : Hid (ldayR ⟨d, p, f, m, y, s, l⟩ ⟨y0, m0, d0, k0⟩ = (0, 3)) := (by simp [ldayR, hs, hy] : ldayR ⟨d, p, f, m, y, s, l⟩ _ = _)
      clear hs hy ok
      go_enter Try.func48, Try.ntmps48
      go_upto_region 1 with fail
      refine gen_w (fun W => Blk W w.heap.size #[.int .i64 d, .int .i64 p, .int .i64 f, .int .i64 m, .int .i64 y, .int .i64 s, .int .i64 l] 26 ∧ Blk W (w.heap.size + 1) #[.int .i64 y0, .int .i64 m0, .int .i64 d0, .bool k0] 77 ∧ Below w.heap.size w W) ⟨(Blk.at_ rfl).alloc _, Blk.at_ (by simp), by (repeat (first | exact Below.refl _ _ | assumption | (refine Below.alloc ?_ (by first | omega | (simp; omega) | (simp; done)) _) | (refine Below.setCell ?_ (by first | omega | (simp; omega) | (simp; done)) _) | (refine Below.drew ?_) | (refine belowN ?_ _) | (refine Below.trans ?_ (Below.mono ‹Below _ _ _› (by first | omega | (simp; omega) | (simp; done))))))⟩ ?_
      rintro V0 ⟨g0, g1, hw⟩
      (have c0 := g0.cell 0; have c1 := g0.cell 1; have c2 := g0.cell 2; have c3 := g0.cell 3; have c4 := g0.cell 4; have c5 := g0.cell 5; have c6 := g0.cell 6; have s0 := g1.cell 0; have s1 := g1.cell 1; have s2 := g1.cell 2; have s3 := g1.cell 3; simp at c0 c1 c2 c3 c4 c5 c6 s0 s1 s2 s3)
      go_wp2_with (first | (go_at_call 49; (with_reducible refine (HSV.out _).mono ?_); rintro _ V1 ⟨rfl, hb1⟩; (have hw := bl2 hw hb1; have g0 := g0.below hb1 g0.lt; have g1 := g1.below hb1 g1.lt; (have c0 := g0.cell 0; have c1 := g0.cell 1; have c2 := g0.cell 2; have c3 := g0.cell 3; have c4 := g0.cell 4; have c5 := g0.cell 5; have c6 := g0.cell 6; have s0 := g1.cell 0; have s1 := g1.cell 1; have s2 := g1.cell 2; have s3 := g1.cell 3; simp at c0 c1 c2 c3 c4 c5 c6 s0 s1 s2 s3))) | (go_at_call 65; (with_reducible refine (HYV.out _).mono ?_); rintro _ _ ⟨rfl, rfl⟩))
      refine bodyPost_ret (v := .tuple #[.int .i64 0, .int .i64 3]) (by simp [results, Try.results48, go_sem]) rfl ?_
      rw [HT.out]; exact ⟨rfl, hw⟩
    | true =>
      have HYV := Lib.hid (fun W => rin_val hy W)
      have HYB := Lib.hid hy
      obtain ⟨q0, q1⟩ := inB_iff.1 hy
      have hFB := FI_bd ok (n := y0) q0 (by omega)
      have hF := FI_step ok y0
      have hFl := FI_le ok (n := y0) q0
      have HF0 := Lib.hid (fun W => rfirst_any d p f m y s l y0 W ok q0 (by omega))
      have HF1 := Lib.hid (fun W => rfirst_any d p f m y s l (y0 + 1) W ok (by omega) (by omega))
      obtain ⟨FB, hFBe⟩ : ∃ B, B = FI ⟨d, p, f, m, y, s, l⟩ y0 := ⟨_, rfl⟩
      obtain ⟨FA, hFAe⟩ : ∃ B, B = FI ⟨d, p, f, m, y, s, l⟩ (y0 + 1) := ⟨_, rfl⟩
      have HFB := Lib.hid hFBe; have HFA := Lib.hid hFAe
      rw [← hFBe] at HF0 hFB hF hFl
      rw [← hFAe] at HF1 hF
      have HLG : Hid (longM ⟨d, p, f, m, y, s, l⟩ y0 = (FA - FB == 13)) := (by rw [hFAe, hFBe]; rfl : _ = _)
      have hl := ok.l
      simp only at hl
      obtain ⟨hfb0, -⟩ := hFB.2
      have u1 : IntKind.i64.wrap (y0 + 1) = y0 + 1 := IntWalk.i64_in _ ⟨by omega, by omega⟩
      have u2 : IntKind.i64.wrap (FA - FB) = FA - FB := IntWalk.i64_in _ ⟨by omega, by omega⟩
      clear hs hy hFBe hFAe ok hFB
      go_enter Try.func48, Try.ntmps48
      go_upto_region 1 with fail
      refine gen_w (fun W => Blk W w.heap.size #[.int .i64 d, .int .i64 p, .int .i64 f, .int .i64 m, .int .i64 y, .int .i64 s, .int .i64 l] 26 ∧ Blk W (w.heap.size + 1) #[.int .i64 y0, .int .i64 m0, .int .i64 d0, .bool k0] 77 ∧ Below w.heap.size w W) ⟨(Blk.at_ rfl).alloc _, Blk.at_ (by simp), by (repeat (first | exact Below.refl _ _ | assumption | (refine Below.alloc ?_ (by first | omega | (simp; omega) | (simp; done)) _) | (refine Below.setCell ?_ (by first | omega | (simp; omega) | (simp; done)) _) | (refine Below.drew ?_) | (refine belowN ?_ _) | (refine Below.trans ?_ (Below.mono ‹Below _ _ _› (by first | omega | (simp; omega) | (simp; done))))))⟩ ?_
      rintro V0 ⟨g0, g1, hw⟩
      (have c0 := g0.cell 0; have c1 := g0.cell 1; have c2 := g0.cell 2; have c3 := g0.cell 3; have c4 := g0.cell 4; have c5 := g0.cell 5; have c6 := g0.cell 6; have s0 := g1.cell 0; have s1 := g1.cell 1; have s2 := g1.cell 2; have s3 := g1.cell 3; simp at c0 c1 c2 c3 c4 c5 c6 s0 s1 s2 s3)
      go_upto_region 7 with (first | (go_at_call 49; (with_reducible refine (HSV.out _).mono ?_); rintro _ V1 ⟨rfl, hb1⟩; (have hw := bl2 hw hb1; have g0 := g0.below hb1 g0.lt; have g1 := g1.below hb1 g1.lt; (have c0 := g0.cell 0; have c1 := g0.cell 1; have c2 := g0.cell 2; have c3 := g0.cell 3; have c4 := g0.cell 4; have c5 := g0.cell 5; have c6 := g0.cell 6; have s0 := g1.cell 0; have s1 := g1.cell 1; have s2 := g1.cell 2; have s3 := g1.cell 3; simp at c0 c1 c2 c3 c4 c5 c6 s0 s1 s2 s3))) | (go_at_call 65; (with_reducible refine (HYV.out _).mono ?_); rintro _ _ ⟨rfl, rfl⟩) | (go_at_call 87; (with_reducible refine (HF0.out _).mono ?_); rintro _ V1 ⟨rfl, hb1⟩; (have hw := bl2 hw hb1; have g0 := g0.below hb1 g0.lt; have g1 := g1.below hb1 g1.lt; (have c0 := g0.cell 0; have c1 := g0.cell 1; have c2 := g0.cell 2; have c3 := g0.cell 3; have c4 := g0.cell 4; have c5 := g0.cell 5; have c6 := g0.cell 6; have s0 := g1.cell 0; have s1 := g1.cell 1; have s2 := g1.cell 2; have s3 := g1.cell 3; simp at c0 c1 c2 c3 c4 c5 c6 s0 s1 s2 s3))))
      clear hb1
      go_loopw [6, 7, 8] (fun mo lp i wr => ∃ t : Nat, (t : Int) ≤ FA - FB ∧ i = .int .i64 (FB + t) ∧ mo = .int .i64 (nameM ⟨d, p, f, m, y, s, l⟩ y0 t).1 ∧ lp = .bool (nameM ⟨d, p, f, m, y, s, l⟩ y0 t).2 ∧ Hid (∀ q : Nat, 1 ≤ q → q ≤ t → nameM ⟨d, p, f, m, y, s, l⟩ y0 q ≠ (m0, k0)) ∧ Hid (Below w.heap.size w wr) ∧ Blk wr w.heap.size #[.int .i64 d, .int .i64 p, .int .i64 f, .int .i64 m, .int .i64 y, .int .i64 s, .int .i64 l] 26 ∧ Blk wr (w.heap.size + 1) #[.int .i64 y0, .int .i64 m0, .int .i64 d0, .bool k0] 77) (fun _ _ i _ => (FA - intOf i).toNat)
      case atStart =>
        have hz := nameM_zero HOK.out y0
        exact ⟨0, by omega, by simp, by rw [show ((0 : Nat) : Int) = 0 from rfl, hz], by rw [show ((0 : Nat) : Int) = 0 from rfl, hz], (fun q h1 h2 => by omega : ∀ q : Nat, 1 ≤ q → q ≤ 0 → nameM ⟨d, p, f, m, y, s, l⟩ y0 q ≠ (m0, k0)), hw, g0, g1⟩
      case round =>
        clear hw g0 g1
        (clear c0 c1 c2 c3 c4 c5 c6 s0 s1 s2 s3)
        obtain ⟨t, ht, rfl, rfl, rfl, HNE, hbw, g0, g1⟩ := hrel
        have hw := hbw.out
        clear hbw
        (have c0 := g0.cell 0; have c1 := g0.cell 1; have c2 := g0.cell 2; have c3 := g0.cell 3; have c4 := g0.cell 4; have c5 := g0.cell 5; have c6 := g0.cell 6; have s0 := g1.cell 0; have s1 := g1.cell 1; have s2 := g1.cell 2; have s3 := g1.cell 3; simp at c0 c1 c2 c3 c4 c5 c6 s0 s1 s2 s3)
        by_cases hlt : (t : Int) < FA - FB
        · have t1 : decide (FB + (t : Int) < FA) = true := by simp; omega
          have hnb := nameM_bd (r := ⟨d, p, f, m, y, s, l⟩) (y := y0) (t := (t : Int)) (by omega)
          have HST : Hid (nameM ⟨d, p, f, m, y, s, l⟩ y0 ((t + 1 : Nat) : Int) = _) := (nameM_step (r := ⟨d, p, f, m, y, s, l⟩) (y := y0) (t := (t : Int)) (by omega) hl.1 : _ = _)
          obtain ⟨⟨mo, lp⟩, hq⟩ : ∃ q, q = nameM ⟨d, p, f, m, y, s, l⟩ y0 t := ⟨_, rfl⟩
          rw [← hq, HLG.out] at HST
          rw [← hq] at hnb ⊢
          simp only at hnb HST
          obtain ⟨lp2, hlp2⟩ : ∃ b, b = leapS (FA - FB == 13) l (mo, lp) := ⟨_, rfl⟩
          rw [← hlp2] at HST
          have HLP := Lib.hid hlp2
          have v2 : IntKind.i64.wrap (mo + 1) = mo + 1 := IntWalk.i64_in _ ⟨by omega, by omega⟩
          have v6 : IntKind.i64.wrap (FB + (t : Int) + 1) = FB + (t : Int) + 1 := IntWalk.i64_in _ ⟨by omega, by omega⟩
          clear hq hlp2
          go_upto_region 9 with (go_at_call 87; (with_reducible refine (HF1.out _).mono ?_); rintro _ V1 ⟨rfl, hb1⟩; (have hw := bl2 hw hb1; have g0 := g0.below hb1 g0.lt; have g1 := g1.below hb1 g1.lt; (have c0 := g0.cell 0; have c1 := g0.cell 1; have c2 := g0.cell 2; have c3 := g0.cell 3; have c4 := g0.cell 4; have c5 := g0.cell 5; have c6 := g0.cell 6; have s0 := g1.cell 0; have s1 := g1.cell 1; have s2 := g1.cell 2; have s3 := g1.cell 3; simp at c0 c1 c2 c3 c4 c5 c6 s0 s1 s2 s3)))
          clear hb1
          rename World => V9
          go_cut [7] (fun s7 wx => s7 = .bool lp2 ∧ Below V9.heap.size V9 wx)
          case first =>
            have hl2 := HLP.out
            unfold leapS at hl2
            simp only at hl2
            cases b1 : (FA - FB == 13) with
            | false =>
              rw [b1] at hl2; simp at hl2; subst hl2
              clear HLP HST HNE
              (refine wp_region_ext (by kernel_rfl) (by kernel_rfl) ?_; (repeat (go_big_quiet_step((first | (go_at_call 87; with_reducible exact Calls.ext_of (HF0.out _)) | (go_at_call 87; with_reducible exact Calls.ext_of (HF1.out _)))))); with_reducible refine wpQuiet_nil ?_; intro w1 hw1; have hb1 := ext_below hw1; clear hw1)
              go_wp2_with fail
              go_meet
              exact ⟨rfl, hb1⟩
            | true =>
              cases b2 : (mo == l) with
              | false =>
                rw [b1, b2] at hl2; simp at hl2; subst hl2
                clear HLP HST HNE
                (refine wp_region_ext (by kernel_rfl) (by kernel_rfl) ?_; (repeat (go_big_quiet_step((first | (go_at_call 87; with_reducible exact Calls.ext_of (HF0.out _)) | (go_at_call 87; with_reducible exact Calls.ext_of (HF1.out _)))))); with_reducible refine wpQuiet_nil ?_; intro w1 hw1; have hb1 := ext_below hw1; clear hw1)
                go_wp2_with fail
                go_meet
                exact ⟨rfl, hb1⟩
              | true =>
                cases lp with
                | true =>
                  rw [b1, b2] at hl2; simp at hl2; subst hl2
                  clear HLP HST HNE
                  (refine wp_region_ext (by kernel_rfl) (by kernel_rfl) ?_; (repeat (go_big_quiet_step((first | (go_at_call 87; with_reducible exact Calls.ext_of (HF0.out _)) | (go_at_call 87; with_reducible exact Calls.ext_of (HF1.out _)))))); with_reducible refine wpQuiet_nil ?_; intro w1 hw1; have hb1 := ext_below hw1; clear hw1)
                  go_wp2_with fail
                  go_meet
                  exact ⟨rfl, hb1⟩
                | false =>
                  rw [b1, b2] at hl2; simp at hl2; subst hl2
                  clear HLP HST HNE
                  (refine wp_region_ext (by kernel_rfl) (by kernel_rfl) ?_; (repeat (go_big_quiet_step((first | (go_at_call 87; with_reducible exact Calls.ext_of (HF0.out _)) | (go_at_call 87; with_reducible exact Calls.ext_of (HF1.out _)))))); with_reducible refine wpQuiet_nil ?_; intro w1 hw1; have hb1 := ext_below hw1; clear hw1)
                  go_wp2_with fail
                  go_meet
                  exact ⟨rfl, hb1⟩
          case rest =>
            obtain ⟨rfl, hcx⟩ := hcut
            rename World => V5
            have hw := bl2 hw hcx
            have g0 := g0.below hcx g0.lt
            have g1 := g1.below hcx g1.lt
            clear hcx HLP
            (clear c0 c1 c2 c3 c4 c5 c6 s0 s1 s2 s3)
            (have c0 := g0.cell 0; have c1 := g0.cell 1; have c2 := g0.cell 2; have c3 := g0.cell 3; have c4 := g0.cell 4; have c5 := g0.cell 5; have c6 := g0.cell 6; have s0 := g1.cell 0; have s1 := g1.cell 1; have s2 := g1.cell 2; have s3 := g1.cell 3; simp at c0 c1 c2 c3 c4 c5 c6 s0 s1 s2 s3)
            have HNE' : Hid (∀ q : Nat, 1 ≤ q → q ≤ t → nameM ⟨d, p, f, m, y, s, l⟩ y0 q ≠ (m0, k0)) := HNE
            clear HNE
            cases lp2 with
            | true =>
              have HN2 : Hid (nameM ⟨d, p, f, m, y, s, l⟩ y0 ((t + 1 : Nat) : Int) = (mo, true)) := HST
              clear HST
              go_upto_region 12 with fail
              by_cases hm : mo = m0
              · have n1 : (mo != m0) = false := by simpa using hm
                cases k0 with
                | true =>
                  have HEQ : Hid (((mo, true) : Int × Bool) = (m0, true)) := (by rw [hm] : ((mo, true) : Int × Bool) = (m0, true))
                  clear hm
                  have HNE := HNE'
                  clear HNE'
                  have HHT : Hid (ldayR ⟨d, p, f, m, y, s, l⟩ ⟨y0, m0, d0, true⟩ = if inB d0 1 (BI ⟨d, p, f, m, y, s, l⟩ (FB + t + 1) - BI ⟨d, p, f, m, y, s, l⟩ (FB + t)) then (if inB (BI ⟨d, p, f, m, y, s, l⟩ (FB + t) + d0 - 1) 0 1000000 then (BI ⟨d, p, f, m, y, s, l⟩ (FB + t) + d0 - 1, 0) else (0, 3)) else (0, 7)) := (by
                    have h := lday_hit HLB.out HYB.out (t := ((t + 1 : Nat) : Int)) (d := d0) (m := m0) (k := true) (by omega) (by have h1 := HFB.out; have h2 := HFA.out; omega) (by rw [HN2.out, HEQ.out])
                    rw [← HFB.out, show FB + ((t + 1 : Nat) : Int) - 1 = FB + (t : Int) by omega] at h
                    exact h : _ = _)
                  have hB0 := (BI_bd HOK.out (n := FB + t) (by omega) (by omega)).2
                  have hB1 := (BI_bd HOK.out (n := FB + t + 1) (by omega) (by omega)).2
                  have HB0 := Lib.hid (fun W => rbegins_any d p f m y s l (FB + t) W HOK.out (by omega) (by omega))
                  have HB1 := Lib.hid (fun W => rbegins_any d p f m y s l (FB + t + 1) W HOK.out (by omega) (by omega))
                  obtain ⟨B0, hB0e⟩ : ∃ B, B = BI ⟨d, p, f, m, y, s, l⟩ (FB + t) := ⟨_, rfl⟩
                  obtain ⟨B1, hB1e⟩ : ∃ B, B = BI ⟨d, p, f, m, y, s, l⟩ (FB + t + 1) := ⟨_, rfl⟩
                  rw [← hB0e] at HB0 hB0 HHT
                  rw [← hB1e] at HB1 hB1 HHT
                  clear hB0e hB1e HNE HN2 HEQ
                  have v1 : IntKind.i64.wrap (B1 - B0) = B1 - B0 := IntWalk.i64_in _ ⟨by omega, by omega⟩
                  have v3 : IntKind.i64.wrap (FB + (t : Int) + 1) = FB + (t : Int) + 1 := IntWalk.i64_in _ ⟨by omega, by omega⟩
                  go_upto_region 13 with fail
                  cases hd1 : inB d0 1 (B1 - B0) with
                  | false =>
                    have HNV := Lib.hid (fun W => rin_val hd1 W)
                    have HT : Hid (ldayR ⟨d, p, f, m, y, s, l⟩ ⟨y0, m0, d0, true⟩ = (0, 7)) := (by rw [HHT.out, hd1]; rfl : _ = _)
                    clear hd1 HHT
                    (refine wp_region_ext (by kernel_rfl) (by kernel_rfl) ?_; (repeat (go_big_quiet_step((first | (go_at_call 88; with_reducible exact Calls.ext_of (HB1.out _)) | (go_at_call 88; with_reducible exact Calls.ext_of (HB0.out _)) | (go_at_call 65; with_reducible exact Calls.ext_same (HNV.out _)))))); with_reducible refine wpQuiet_nil ?_; intro w1 hw1; have hb1 := ext_below hw1; clear hw1)
                    have hw := bl2 hw hb1
                    go_wp2_with fail
                    refine bodyPost_ret (v := .tuple #[.int .i64 0, .int .i64 7]) (by simp [results, Try.results48, go_sem]) rfl ?_
                    rw [HT.out]; exact ⟨rfl, hw⟩
                  | true =>
                    have HNV := Lib.hid (fun W => rin_val hd1 W)
                    obtain ⟨e0, e1⟩ := inB_iff.1 hd1
                    have HT : Hid (ldayR ⟨d, p, f, m, y, s, l⟩ ⟨y0, m0, d0, true⟩ = if inB (B0 + d0 - 1) 0 1000000 then (B0 + d0 - 1, 0) else (0, 3)) := (by rw [HHT.out, hd1]; rfl : _ = _)
                    have v4 : IntKind.i64.wrap (B0 + d0) = B0 + d0 := IntWalk.i64_in _ ⟨by omega, by omega⟩
                    have v5 : IntKind.i64.wrap (B0 + d0 - 1) = B0 + d0 - 1 := IntWalk.i64_in _ ⟨by omega, by omega⟩
                    clear hd1 HHT
                    (refine wp_region_ext (by kernel_rfl) (by kernel_rfl) ?_; (repeat (go_big_quiet_step((first | (go_at_call 88; with_reducible exact Calls.ext_of (HB1.out _)) | (go_at_call 88; with_reducible exact Calls.ext_of (HB0.out _)) | (go_at_call 65; with_reducible exact Calls.ext_same (HNV.out _)))))); with_reducible refine wpQuiet_nil ?_; intro w1 hw1; have hb1 := ext_below hw1; clear hw1)
                    have hw := bl2 hw hb1
                    have g0 := g0.below hb1 g0.lt
                    have g1 := g1.below hb1 g1.lt
                    clear hb1
                    (clear c0 c1 c2 c3 c4 c5 c6 s0 s1 s2 s3)
                    (have c0 := g0.cell 0; have c1 := g0.cell 1; have c2 := g0.cell 2; have c3 := g0.cell 3; have c4 := g0.cell 4; have c5 := g0.cell 5; have c6 := g0.cell 6; have s0 := g1.cell 0; have s1 := g1.cell 1; have s2 := g1.cell 2; have s3 := g1.cell 3; simp at c0 c1 c2 c3 c4 c5 c6 s0 s1 s2 s3)
                    go_upto_region 15 with fail
                    (refine wp_region_ext (by kernel_rfl) (by kernel_rfl) ?_; (repeat (go_big_quiet_step((go_at_call 88; with_reducible exact Calls.ext_of (HB0.out _))))); with_reducible refine wpQuiet_nil ?_; intro w1 hw1; have hb1 := ext_below hw1; clear hw1)
                    have hw := bl2 hw hb1
                    clear hb1
                    obtain ⟨M2, hM2⟩ : ∃ M, M = B0 + d0 - 1 := ⟨_, rfl⟩
                    rw [← hM2] at HT ⊢
                    clear hM2 v5
                    cases hdd : inB M2 0 1000000 with
                    | false =>
                      have HDV := Lib.hid (fun W => rday_val hdd W)
                      rw [hdd] at HT
                      clear hdd
                      go_wp2_with (go_at_call 28; refine (HDV.out _).mono ?_; rintro _ _ ⟨rfl, rfl⟩)
                      refine bodyPost_ret (v := .tuple #[.int .i64 0, .int .i64 3]) (by simp [results, Try.results48, go_sem]) rfl ?_
                      rw [HT.out]; exact ⟨rfl, hw⟩
                    | true =>
                      have HDV := Lib.hid (fun W => rday_val hdd W)
                      rw [hdd] at HT
                      clear hdd
                      go_wp2_with (go_at_call 28; refine (HDV.out _).mono ?_; rintro _ _ ⟨rfl, rfl⟩)
                      refine bodyPost_ret (v := .tuple #[.int .i64 M2, .int .i64 0]) (by simp [results, Try.results48, go_sem]) rfl ?_
                      rw [HT.out]; exact ⟨rfl, hw⟩
                | false =>
                  have HDF : Hid (((mo, true) : Int × Bool) ≠ (m0, false)) := (by simp : ((mo, true) : Int × Bool) ≠ (m0, false))
                  clear hm
                  have HNE2 : Hid (∀ q : Nat, 1 ≤ q → q ≤ t + 1 → nameM ⟨d, p, f, m, y, s, l⟩ y0 q ≠ (m0, false)) := (by
                    intro q q1 q2
                    by_cases hq : q ≤ t
                    · exact HNE'.out q q1 hq
                    · obtain rfl : q = t + 1 := by omega
                      rw [HN2.out]
                      exact HDF.out : ∀ q : Nat, 1 ≤ q → q ≤ t + 1 → nameM ⟨d, p, f, m, y, s, l⟩ y0 q ≠ (m0, false))
                  go_wp2_with fail
                  go_roundw
                  case rel => exact ⟨t + 1, by omega, by rw [show FB + ((t + 1 : Nat) : Int) = FB + (t : Int) + 1 by omega], by rw [HN2.out], by rw [HN2.out], HNE2, hw, g0, g1⟩
                  case measure => simp only [intOf]; omega
              · have n1 : (mo != m0) = true := by simpa using hm
                have HDF : Hid (((mo, true) : Int × Bool) ≠ (m0, k0)) := (by simp [hm] : ((mo, true) : Int × Bool) ≠ (m0, k0))
                clear hm
                have HNE2 : Hid (∀ q : Nat, 1 ≤ q → q ≤ t + 1 → nameM ⟨d, p, f, m, y, s, l⟩ y0 q ≠ (m0, k0)) := (by
                  intro q q1 q2
                  by_cases hq : q ≤ t
                  · exact HNE'.out q q1 hq
                  · obtain rfl : q = t + 1 := by omega
                    rw [HN2.out]
                    exact HDF.out : ∀ q : Nat, 1 ≤ q → q ≤ t + 1 → nameM ⟨d, p, f, m, y, s, l⟩ y0 q ≠ (m0, k0))
                go_wp2_with fail
                go_roundw
                case rel => exact ⟨t + 1, by omega, by rw [show FB + ((t + 1 : Nat) : Int) = FB + (t : Int) + 1 by omega], by rw [HN2.out], by rw [HN2.out], HNE2, hw, g0, g1⟩
                case measure => simp only [intOf]; omega
            | false =>
              obtain ⟨mo2, hmo2⟩ : ∃ x, x = mo + 1 := ⟨_, rfl⟩
              have HN2 : Hid (nameM ⟨d, p, f, m, y, s, l⟩ y0 ((t + 1 : Nat) : Int) = (mo2, false)) := (by rw [hmo2]; exact HST.out : _ = _)
              clear HST
              go_upto_region 12 with fail
              rw [← hmo2]
              clear hmo2 v2
              by_cases hm : mo2 = m0
              · have n1 : (mo2 != m0) = false := by simpa using hm
                cases k0 with
                | false =>
                  have HEQ : Hid (((mo2, false) : Int × Bool) = (m0, false)) := (by rw [hm] : ((mo2, false) : Int × Bool) = (m0, false))
                  clear hm
                  have HNE := HNE'
                  clear HNE'
                  have HHT : Hid (ldayR ⟨d, p, f, m, y, s, l⟩ ⟨y0, m0, d0, false⟩ = if inB d0 1 (BI ⟨d, p, f, m, y, s, l⟩ (FB + t + 1) - BI ⟨d, p, f, m, y, s, l⟩ (FB + t)) then (if inB (BI ⟨d, p, f, m, y, s, l⟩ (FB + t) + d0 - 1) 0 1000000 then (BI ⟨d, p, f, m, y, s, l⟩ (FB + t) + d0 - 1, 0) else (0, 3)) else (0, 7)) := (by
                    have h := lday_hit HLB.out HYB.out (t := ((t + 1 : Nat) : Int)) (d := d0) (m := m0) (k := false) (by omega) (by have h1 := HFB.out; have h2 := HFA.out; omega) (by rw [HN2.out, HEQ.out])
                    rw [← HFB.out, show FB + ((t + 1 : Nat) : Int) - 1 = FB + (t : Int) by omega] at h
                    exact h : _ = _)
                  have hB0 := (BI_bd HOK.out (n := FB + t) (by omega) (by omega)).2
                  have hB1 := (BI_bd HOK.out (n := FB + t + 1) (by omega) (by omega)).2
                  have HB0 := Lib.hid (fun W => rbegins_any d p f m y s l (FB + t) W HOK.out (by omega) (by omega))
                  have HB1 := Lib.hid (fun W => rbegins_any d p f m y s l (FB + t + 1) W HOK.out (by omega) (by omega))
                  obtain ⟨B0, hB0e⟩ : ∃ B, B = BI ⟨d, p, f, m, y, s, l⟩ (FB + t) := ⟨_, rfl⟩
                  obtain ⟨B1, hB1e⟩ : ∃ B, B = BI ⟨d, p, f, m, y, s, l⟩ (FB + t + 1) := ⟨_, rfl⟩
                  rw [← hB0e] at HB0 hB0 HHT
                  rw [← hB1e] at HB1 hB1 HHT
                  clear hB0e hB1e HNE HN2 HEQ
                  have v1 : IntKind.i64.wrap (B1 - B0) = B1 - B0 := IntWalk.i64_in _ ⟨by omega, by omega⟩
                  have v3 : IntKind.i64.wrap (FB + (t : Int) + 1) = FB + (t : Int) + 1 := IntWalk.i64_in _ ⟨by omega, by omega⟩
                  go_upto_region 13 with fail
                  cases hd1 : inB d0 1 (B1 - B0) with
                  | false =>
                    have HNV := Lib.hid (fun W => rin_val hd1 W)
                    have HT : Hid (ldayR ⟨d, p, f, m, y, s, l⟩ ⟨y0, m0, d0, false⟩ = (0, 7)) := (by rw [HHT.out, hd1]; rfl : _ = _)
                    clear hd1 HHT
                    (refine wp_region_ext (by kernel_rfl) (by kernel_rfl) ?_; (repeat (go_big_quiet_step((first | (go_at_call 88; with_reducible exact Calls.ext_of (HB1.out _)) | (go_at_call 88; with_reducible exact Calls.ext_of (HB0.out _)) | (go_at_call 65; with_reducible exact Calls.ext_same (HNV.out _)))))); with_reducible refine wpQuiet_nil ?_; intro w1 hw1; have hb1 := ext_below hw1; clear hw1)
                    have hw := bl2 hw hb1
                    go_wp2_with fail
                    refine bodyPost_ret (v := .tuple #[.int .i64 0, .int .i64 7]) (by simp [results, Try.results48, go_sem]) rfl ?_
                    rw [HT.out]; exact ⟨rfl, hw⟩
                  | true =>
                    have HNV := Lib.hid (fun W => rin_val hd1 W)
                    obtain ⟨e0, e1⟩ := inB_iff.1 hd1
                    have HT : Hid (ldayR ⟨d, p, f, m, y, s, l⟩ ⟨y0, m0, d0, false⟩ = if inB (B0 + d0 - 1) 0 1000000 then (B0 + d0 - 1, 0) else (0, 3)) := (by rw [HHT.out, hd1]; rfl : _ = _)
                    have v4 : IntKind.i64.wrap (B0 + d0) = B0 + d0 := IntWalk.i64_in _ ⟨by omega, by omega⟩
                    have v5 : IntKind.i64.wrap (B0 + d0 - 1) = B0 + d0 - 1 := IntWalk.i64_in _ ⟨by omega, by omega⟩
                    clear hd1 HHT
                    (refine wp_region_ext (by kernel_rfl) (by kernel_rfl) ?_; (repeat (go_big_quiet_step((first | (go_at_call 88; with_reducible exact Calls.ext_of (HB1.out _)) | (go_at_call 88; with_reducible exact Calls.ext_of (HB0.out _)) | (go_at_call 65; with_reducible exact Calls.ext_same (HNV.out _)))))); with_reducible refine wpQuiet_nil ?_; intro w1 hw1; have hb1 := ext_below hw1; clear hw1)
                    have hw := bl2 hw hb1
                    have g0 := g0.below hb1 g0.lt
                    have g1 := g1.below hb1 g1.lt
                    clear hb1
                    (clear c0 c1 c2 c3 c4 c5 c6 s0 s1 s2 s3)
                    (have c0 := g0.cell 0; have c1 := g0.cell 1; have c2 := g0.cell 2; have c3 := g0.cell 3; have c4 := g0.cell 4; have c5 := g0.cell 5; have c6 := g0.cell 6; have s0 := g1.cell 0; have s1 := g1.cell 1; have s2 := g1.cell 2; have s3 := g1.cell 3; simp at c0 c1 c2 c3 c4 c5 c6 s0 s1 s2 s3)
                    go_upto_region 15 with fail
                    (refine wp_region_ext (by kernel_rfl) (by kernel_rfl) ?_; (repeat (go_big_quiet_step((go_at_call 88; with_reducible exact Calls.ext_of (HB0.out _))))); with_reducible refine wpQuiet_nil ?_; intro w1 hw1; have hb1 := ext_below hw1; clear hw1)
                    have hw := bl2 hw hb1
                    clear hb1
                    obtain ⟨M2, hM2⟩ : ∃ M, M = B0 + d0 - 1 := ⟨_, rfl⟩
                    rw [← hM2] at HT ⊢
                    clear hM2 v5
                    cases hdd : inB M2 0 1000000 with
                    | false =>
                      have HDV := Lib.hid (fun W => rday_val hdd W)
                      rw [hdd] at HT
                      clear hdd
                      go_wp2_with (go_at_call 28; refine (HDV.out _).mono ?_; rintro _ _ ⟨rfl, rfl⟩)
                      refine bodyPost_ret (v := .tuple #[.int .i64 0, .int .i64 3]) (by simp [results, Try.results48, go_sem]) rfl ?_
                      rw [HT.out]; exact ⟨rfl, hw⟩
                    | true =>
                      have HDV := Lib.hid (fun W => rday_val hdd W)
                      rw [hdd] at HT
                      clear hdd
                      go_wp2_with (go_at_call 28; refine (HDV.out _).mono ?_; rintro _ _ ⟨rfl, rfl⟩)
                      refine bodyPost_ret (v := .tuple #[.int .i64 M2, .int .i64 0]) (by simp [results, Try.results48, go_sem]) rfl ?_
                      rw [HT.out]; exact ⟨rfl, hw⟩
                | true =>
                  have HDF : Hid (((mo2, false) : Int × Bool) ≠ (m0, true)) := (by simp : ((mo2, false) : Int × Bool) ≠ (m0, true))
                  clear hm
                  have HNE2 : Hid (∀ q : Nat, 1 ≤ q → q ≤ t + 1 → nameM ⟨d, p, f, m, y, s, l⟩ y0 q ≠ (m0, true)) := (by
                    intro q q1 q2
                    by_cases hq : q ≤ t
                    · exact HNE'.out q q1 hq
                    · obtain rfl : q = t + 1 := by omega
                      rw [HN2.out]
                      exact HDF.out : ∀ q : Nat, 1 ≤ q → q ≤ t + 1 → nameM ⟨d, p, f, m, y, s, l⟩ y0 q ≠ (m0, true))
                  go_wp2_with fail
                  go_roundw
                  case rel => exact ⟨t + 1, by omega, by rw [show FB + ((t + 1 : Nat) : Int) = FB + (t : Int) + 1 by omega], by rw [HN2.out], by rw [HN2.out], HNE2, hw, g0, g1⟩
                  case measure => simp only [intOf]; omega
              · have n1 : (mo2 != m0) = true := by simpa using hm
                have HDF : Hid (((mo2, false) : Int × Bool) ≠ (m0, k0)) := (by simp [hm] : ((mo2, false) : Int × Bool) ≠ (m0, k0))
                clear hm
                have HNE2 : Hid (∀ q : Nat, 1 ≤ q → q ≤ t + 1 → nameM ⟨d, p, f, m, y, s, l⟩ y0 q ≠ (m0, k0)) := (by
                  intro q q1 q2
                  by_cases hq : q ≤ t
                  · exact HNE'.out q q1 hq
                  · obtain rfl : q = t + 1 := by omega
                    rw [HN2.out]
                    exact HDF.out : ∀ q : Nat, 1 ≤ q → q ≤ t + 1 → nameM ⟨d, p, f, m, y, s, l⟩ y0 q ≠ (m0, k0))
                go_wp2_with fail
                go_roundw
                case rel => exact ⟨t + 1, by omega, by rw [show FB + ((t + 1 : Nat) : Int) = FB + (t : Int) + 1 by omega], by rw [HN2.out], by rw [HN2.out], HNE2, hw, g0, g1⟩
                case measure => simp only [intOf]; omega
        · have t1 : decide (FB + (t : Int) < FA) = false := by simp; omega
          have HT : Hid (ldayR ⟨d, p, f, m, y, s, l⟩ ⟨y0, m0, d0, k0⟩ = (0, 7)) := (lday_miss HLB.out HYB.out (fun q h1 h2 => HNE.out q h1 (by have h3 := HFB.out; have h4 := HFA.out; omega)) : _ = _)
          go_wp2_with (go_at_call 87; (with_reducible refine (HF1.out _).mono ?_); rintro _ V1 ⟨rfl, hb1⟩; (have hw := bl2 hw hb1; have g0 := g0.below hb1 g0.lt; have g1 := g1.below hb1 g1.lt; (have c0 := g0.cell 0; have c1 := g0.cell 1; have c2 := g0.cell 2; have c3 := g0.cell 3; have c4 := g0.cell 4; have c5 := g0.cell 5; have c6 := g0.cell 6; have s0 := g1.cell 0; have s1 := g1.cell 1; have s2 := g1.cell 2; have s3 := g1.cell 3; simp at c0 c1 c2 c3 c4 c5 c6 s0 s1 s2 s3)))
          refine bodyPost_ret (v := .tuple #[.int .i64 0, .int .i64 7]) (by simp [results, Try.results48, go_sem]) rfl ?_
          rw [HT.out]; exact ⟨rfl, hw⟩
end Go.Proofs.Ytfbnllmmoaialaa

/- The law SchoolKeeps: the walk. -/
import Derived.Test.YtidlmbajpbbilaaRgE
import Derived.Test.YtidlmbajpbbilaaHlH
import Derived.Test.YtidlmbajpbbilaaLwA
namespace Go.Proofs.Ytidlmbajpbbilaa
open Go.RowKit

theorem keepsR_ok {s : Sch} {cs : List Clm} (h : schB s = true) (h1 : claimsX s cs = 0) : keepsR s cs = ((keepsI s cs 0).1, (keepsI s cs 0).2, 0) ∧ claimsE s cs = 0 := by
  unfold claimsX at h1
  split at h1
  · rename_i h2; exact ⟨by simp [keepsR, h, h2, h1], h1⟩
  · cases h1
theorem keepsR_x {s : Sch} {cs : List Clm} (h : schB s = true) (h1 : claimsX s cs ≠ 0) : keepsR s cs = (0, 0, claimsX s cs) := by
  unfold claimsX at *
  split at h1
  · rename_i h2; simp [keepsR, h, h2, h1]
  · rename_i h2; simp [keepsR, h, h2]
set_option maxRecDepth 100000 in
set_option maxHeartbeats 8000000 in
theorem lwkeeps_ok (s : Sch) (A : Option Addr) (c : Nat) (cs : List Clm) (w : World) (HRR : Hid (s.wreads w w.heap.size)) (HN0 : Hid s.nil0) (HAA : Hid (ClmsRead w w.heap.size A cs)) (HC0 : Hid (∀ q ∈ cs, q.nil0))
    (hg : largeB s 300 = false) (h25 : cs.length ≤ 25) (h10 : Hid (∀ q ∈ cs, q.sets.length ≤ 10)) :
    Calls Try.prog 4 #[scv s s.rv, .slice A cs.length c] w fun e w' => e = .returned (.bool true) ∧ Below w.heap.size w w' := by
  obtain ⟨hlen, hall, -⟩ := not_large hg
  have d1 : decide (25 < (cs.length : Int)) = false := by simp; omega
  have d1' : decide (25 < cs.length) = false := by simp; omega
  have hrd := reads_of_weak HRR.out hlen hall
  obtain ⟨x1, x2, er, hcr⟩ : ∃ a b c, keepsR s cs = (a, b, c) := ⟨_, _, _, rfl⟩
  have HCR := Lib.hid hcr; have HR := Lib.hid hrd
  clear hcr hrd hall
  go_enter Try.func4, Try.ntmps4
  go_wp2_with (go_at_call 14; refine (large_any s 300 _ ((HRR.out.below (by (repeat (first | exact Below.refl _ _ | assumption | (refine Below.alloc ?_ (by first | omega | (simp; omega) | (simp; done)) _) | (refine Below.setCell ?_ (by first | omega | (simp; omega) | (simp; done)) _) | (refine Below.drew ?_) | (refine belowN ?_ _) | (refine Below.trans ?_ (Below.mono ‹Below _ _ _› (by first | omega | (simp; omega) | (simp; done)))))))).more (by simp))).mono ?_; rintro _ W1 ⟨rfl, hbx⟩; rw [hg]; have hw1 := bl2 (bla (Below.refl _ _)) hbx; have g1 : Blk W1 w.heap.size #[.int .i64 s.places, .int .i64 s.signs, .int .i64 s.kinds, .int .i64 s.answers, s.rv] 24 := (Blk.at_ rfl).below hbx (by first | omega | (simp; omega) | (simp; done)); (have s0 := g1.cell 0; have s1 := g1.cell 1; have s2 := g1.cell 2; have s3 := g1.cell 3; have s4 := g1.cell 4; simp at s0 s1 s2 s3 s4))
  clear d1 d1' s0 s1 s2 s3 s4
  refine gen_w (fun W => Below w.heap.size w W ∧ Blk W w.heap.size #[.int .i64 s.places, .int .i64 s.signs, .int .i64 s.kinds, .int .i64 s.answers, s.rv] 24) ⟨hw1, g1⟩ ?_
  clear g1 hw1 hbx
  clear W1
  rintro w0 ⟨hw0, g0⟩
  go_loopw [5] (fun i wr => ∃ j : Nat, j ≤ cs.length ∧ i = .int .i64 j ∧ Below w0.heap.size w0 wr) (fun i _ => cs.length - (intOf i).toNat)
  case atStart => exact ⟨0, by omega, rfl, Below.refl _ _⟩
  case round =>
    obtain ⟨j, hj, rfl, hb⟩ := hrel
    have hw1 : Below w.heap.size w wr := bl2 hw0 hb
    have g1 := g0.below hb g0.lt
    by_cases hlt : j < cs.length
    · have hrr := HAA.out.below hw1
      obtain ⟨ab, ao, rfl, hblk, hcell⟩ := hrr.1.at_ (k := j) (fun _ => rfl) hlt
      have h10' := h10.out _ (List.getElem_mem hlt)
      obtain ⟨q, hqe⟩ : ∃ t, cs[j] = t := ⟨_, rfl⟩
      rw [hqe] at hcell h10'
      have cw1 : wr.cell? ⟨ab, ao + j * 4 + 1, none⟩ = some (Value.slice q.sa q.sets.length q.sc) := hcell 1 _ rfl
      have hj0 : (0 : Int) ≤ (j : Int) := by omega
      have hj1 : (j : Int) < (cs.length : Int) := by omega
      have d2 : decide (10 < (q.sets.length : Int)) = false := by simp; omega
      have d2' : decide (10 < q.sets.length) = false := by simp; omega
      clear hcell hrr hqe
      go_wp2
      go_roundw
      case rel => exact ⟨j + 1, by omega, by go_num, hb⟩
      case measure => simp [intOf]; omega
    · (have s0 := g1.cell 0; have s1 := g1.cell 1; have s2 := g1.cell 2; have s3 := g1.cell 3; have s4 := g1.cell 4; simp at s0 s1 s2 s3 s4)
      go_wp2_with (first | (go_at_call 17; refine (own_any s _ ((HR.out.below hw1).more hw1.size) HN0.out (by omega)).mono ?_; rintro _ W2 ⟨s', rfl, hpl, hr', -, hbx⟩; have HPL := Lib.hid hpl; have HR' := Lib.hid hr'; clear hpl hr'; have hw2 := bl2 hw1 hbx; have g1 := g1.below hbx g1.lt; (have s0 := g1.cell 0; have s1 := g1.cell 1; have s2 := g1.cell 2; have s3 := g1.cell 3; have s4 := g1.cell 4; simp at s0 s1 s2 s3 s4)) |
        (go_at_call 24; refine (claims_any cs A c _ ((HAA.out.below hw2).more hw2.size) HC0.out (by omega)).mono ?_; rintro _ W3 ⟨A', c', cs', rfl, hpc, hA', hb3⟩; have HPC := Lib.hid hpc; have HA' := Lib.hid hA'; clear hpc hA'; have hw3 := bl2 hw2 hb3; have g1 := g1.below hb3 g1.lt; (have s0 := g1.cell 0; have s1 := g1.cell 1; have s2 := g1.cell 2; have s3 := g1.cell 3; have s4 := g1.cell 4; simp at s0 s1 s2 s3 s4)) |
        (go_at_call 23; refine (keeps_any s' cs' A' c' _ ((HR'.out.below hb3).more hb3.size) HA'.out).mono ?_; rw [keeps_cong HPL.out HPC.out, HCR.out]; rintro _ W4 ⟨rfl, hb4⟩; refine Hid.out ?_))
      have hw4 := bl2 hw3 hb4
      have g1 := g1.below hb4 g1.lt
      clear HR' HPL HA' HPC s0 s1 s2 s3 s4
      refine Lib.hid ?_
      refine gen_w (fun W => Below w.heap.size w W ∧ Blk W w.heap.size #[.int .i64 s.places, .int .i64 s.signs, .int .i64 s.kinds, .int .i64 s.answers, s.rv] 24) ⟨hw4, g1⟩ ?_
      clear g1 hw4 hb4 hw3 hb3 hbx hw1 hw2 hb
      rintro W ⟨hw, g1⟩
      (have s0 := g1.cell 0; have s1 := g1.cell 1; have s2 := g1.cell 2; have s3 := g1.cell 3; have s4 := g1.cell 4; simp at s0 s1 s2 s3 s4)
      cases hv : schB s with
      | false =>
        have h2 := HCR.out; simp only [keepsR, hv] at h2; cases h2
        go_wp2_with (first | (go_at_call 19; refine (rschool_any s _ ((HR.out.below hw).more hw.size)).mono ?_; rw [hv]; rintro _ Wx ⟨rfl, hbx⟩) | (go_at_call 15; refine (known_any _).mono ?_; rintro _ Wk ⟨rfl, hbk'⟩))
        go_ret
        exact ⟨rfl, bl2 (bl2 hw hbx) hbk'⟩
      | true =>
        have V := valid_of HR.out.oks hv
        have hsm := small_of_sch hv
        have hkk := V.kinds
        have V3 := v3_of HR.out.oks hv
        by_cases hX : claimsX s cs = 0
        · obtain ⟨hkr, hE⟩ := keepsR_ok hv hX
          have h2 := HCR.out; rw [hkr] at h2; cases h2
          have HX := Lib.hid hX; have HE := Lib.hid hE; have HV := Lib.hid V; have H3 := Lib.hid V3
          clear hX hE V V3 hkr HCR
          obtain ⟨z1, hz1⟩ : ∃ z, z = (keepsI s cs 0).1 := ⟨_, rfl⟩
          obtain ⟨z2, hz2⟩ : ∃ z, z = (keepsI s cs 0).2 := ⟨_, rfl⟩
          rw [← hz1, ← hz2]
          have HZ1 := Lib.hid hz1; have HZ2 := Lib.hid hz2
          clear hz1 hz2
          go_wp2_with (first | (go_at_call 19; refine (rschool_any s _ ((HR.out.below hw).more hw.size)).mono ?_; rw [hv]; rintro _ Wx ⟨rfl, hbx⟩; have hwx := bl2 hw hbx; have g1 := g1.below hbx g1.lt; (have s0 := g1.cell 0; have s1 := g1.cell 1; have s2 := g1.cell 2; have s3 := g1.cell 3; have s4 := g1.cell 4; simp at s0 s1 s2 s3 s4)) |
            (go_at_call 25; refine (rclaims_any s cs A c _ hsm (by omega) (by omega) ((HAA.out.below hwx).more hwx.size)).mono ?_; rw [HX.out]; rintro _ Wy ⟨rfl, hby⟩; have hwy := bl2 hwx hby; have g1 := g1.below hby g1.lt; (have s0 := g1.cell 0; have s1 := g1.cell 1; have s2 := g1.cell 2; have s3 := g1.cell 3; have s4 := g1.cell 4; simp at s0 s1 s2 s3 s4)) |
            (go_at_call 26; refine (rkeeps_any s HV.out H3.out cs A c _ ((HR.out.below hwy).more hwy.size) ((HAA.out.below hwy).more hwy.size) HE.out).mono ?_; rw [← HZ1.out, ← HZ2.out]; rintro _ Wz ⟨rfl, hbz⟩) | (go_at_call 15; refine (known_any _).mono ?_; rintro _ Wk ⟨rfl, hbk'⟩))
          go_ret
          exact ⟨rfl, bl2 (bl2 hwy hbz) hbk'⟩
        · have h2 := HCR.out; rw [keepsR_x hv hX] at h2; cases h2
          obtain ⟨X, hXe⟩ : ∃ X, claimsX s cs = X := ⟨_, rfl⟩
          rw [hXe] at hX ⊢
          have HX := Lib.hid hXe
          have n1 : (X != 0) = true := by simpa using hX
          have n2 : (X == 0) = false := by simpa using hX
          clear hXe hX V V3 HCR
          go_wp2_with (first | (go_at_call 19; refine (rschool_any s _ ((HR.out.below hw).more hw.size)).mono ?_; rw [hv]; rintro _ Wx ⟨rfl, hbx⟩; have hwx := bl2 hw hbx; have g1 := g1.below hbx g1.lt; (have s0 := g1.cell 0; have s1 := g1.cell 1; have s2 := g1.cell 2; have s3 := g1.cell 3; have s4 := g1.cell 4; simp at s0 s1 s2 s3 s4)) |
            (go_at_call 25; refine (rclaims_any s cs A c _ hsm (by omega) (by omega) ((HAA.out.below hwx).more hwx.size)).mono ?_; rw [HX.out]; rintro _ Wy ⟨rfl, hby⟩; have hwy := bl2 hwx hby) | (go_at_call 15; refine (known_any _).mono ?_; rintro _ Wk ⟨rfl, hbk'⟩))
          go_ret
          exact ⟨rfl, bl2 hwy hbk'⟩
end Go.Proofs.Ytidlmbajpbbilaa

/- The reference: Claims returns the error of claims of a valid school. -/
import Derived.Test.YtidlmbajpbbilaaRgA
namespace Go.Proofs.Ytidlmbajpbbilaa
open Go.RowKit

/-- the error of claims, with the length -/
def claimsX (s : Sch) (cs : List Clm) : Int := if cs.length ≤ 20 then claimsE s cs else 5
set_option maxRecDepth 100000 in
set_option maxHeartbeats 2000000 in
theorem rclaims_any (s : Sch) (cs : List Clm) (A : Option Addr) (c : Nat) (w : World) (hs : Small s) (hk1 : 1 ≤ s.kinds) (hk4 : s.kinds ≤ 4) (hr : ClmsRead w w.heap.size A cs) :
    Calls Try.prog 25 #[scv s s.rv, .slice A cs.length c] w fun e w' => e = .returned (.int .i64 (claimsX s cs)) ∧ Below w.heap.size w w' := by
  by_cases h20 : cs.length ≤ 20
  · have HX : Hid (claimsX s cs = claimsE s cs) := (by simp [claimsX, h20] : claimsX s cs = claimsE s cs)
    have d0 : decide (20 < (cs.length : Int)) = false := by simp; omega
    have HR := Lib.hid hr
    clear hr
    go_enter Try.func25, Try.ntmps25
    go_wp2
    clear d0
    refine wp_world (fun W => Below w.heap.size w W ∧ w.heap.size < W.heap.size ∧ Blk W w.heap.size #[.int .i64 s.places, .int .i64 s.signs, .int .i64 s.kinds, .int .i64 s.answers, s.rv] 24) ⟨(Below.refl _ _).alloc (Nat.le_refl _) _, by simp, Blk.at_ rfl⟩ ?_
    rintro w0 ⟨hbw, hz0, g0⟩
    go_loopw [5] (fun i wr => ∃ j : Nat, j ≤ cs.length ∧ i = .int .i64 j ∧ Below w0.heap.size w0 wr ∧ Hid (claimsE s cs = claimsE s (cs.drop j))) (fun i _ => cs.length - (intOf i).toNat)
    case atStart => exact ⟨0, by omega, rfl, Below.refl _ _, rfl⟩
    case round =>
      obtain ⟨j, hj, rfl, hb, HA⟩ := hrel
      have hsz := hb.size
      have hbr : Below w.heap.size w wr := hbw.trans (hb.mono (by omega))
      have gc := (g0.below hb (by omega)).cell
      have s0 := gc 0; have s1 := gc 1; have s2 := gc 2; have s3 := gc 3; have s4 := gc 4
      simp at s0 s1 s2 s3 s4
      have l0 : w.heap.size < wr.heap.size := by omega
      clear gc
      by_cases hlt : j < cs.length
      · have hrr := HR.out.below hbr
        obtain ⟨ab, ao, rfl, hblk, hcell⟩ := hrr.1.at_ (k := j) (fun _ => rfl) hlt
        have HD := Lib.hid (claimsE_drop (s := s) hlt)
        have hq := hrr.2.2 _ (List.getElem_mem hlt)
        obtain ⟨q, hqe⟩ : ∃ t, cs[j] = t := ⟨_, rfl⟩
        rw [hqe] at hcell HD hq
        clear hqe
        have cw0 : wr.cell? ⟨ab, ao + j * 4, none⟩ = some (Value.int .i64 q.kind) := hcell 0 _ rfl
        have cw1 : wr.cell? ⟨ab, ao + j * 4 + 1, none⟩ = some (Value.slice q.sa q.sets.length q.sc) := hcell 1 _ rfl
        have hj0 : (0 : Int) ≤ (j : Int) := by omega
        have hj1 : (j : Int) < (cs.length : Int) := by omega
        have hw1 : IntKind.i64.wrap (s.kinds - 1) = s.kinds - 1 := IntWalk.i64_in _ (by omega)
        clear hcell hrr
        cases hin : inB q.kind 0 (s.kinds - 1) with
        | false =>
          have HT : Hid (claimsX s cs = 7) := (by rw [HX.out, HA.out, HD.out, hin]; rfl : claimsX s cs = 7)
          go_wp2
          (refine wp_region_ext (by kernel_rfl) (by kernel_rfl) ?_; (repeat (go_big_quiet_step((go_at_call 60; first | exact Calls.ext_same (rin_val (by assumption) _))))); with_reducible refine wpQuiet_nil ?_; intro w2 hw2; have hb1 := ext_below hw2; clear hw2)
          go_wp2
          go_ret
          exact ⟨ret_int HT.out.symm, hbr.trans (hb1.mono hbr.size)⟩
        | true =>
          cases hrg : regB s q.sets with
          | false =>
            have HT : Hid (claimsX s cs = 4) := (by rw [HX.out, HA.out, HD.out, hin, hrg]; rfl : claimsX s cs = 4)
            go_wp2
            (refine wp_region_ext (by kernel_rfl) (by kernel_rfl) ?_; (repeat (go_big_quiet_step((go_at_call 60; first | exact Calls.ext_same (rin_val (by assumption) _))))); with_reducible refine wpQuiet_nil ?_; intro w2 hw2; have hb1 := ext_below hw2; clear hw2)
            have hx := hb1
            have u0 := (hx.cell (p := ⟨w.heap.size, 0, none⟩) l0).trans s0
            have u1 := (hx.cell (p := ⟨w.heap.size, 1, none⟩) l0).trans s1
            have u2 := (hx.cell (p := ⟨w.heap.size, 2, none⟩) l0).trans s2
            have u3 := (hx.cell (p := ⟨w.heap.size, 3, none⟩) l0).trans s3
            have u4 := (hx.cell (p := ⟨w.heap.size, 4, none⟩) l0).trans s4
            have hablt : ab < wr.heap.size := by omega
            have v1 := (hx.cell (p := ⟨ab, ao + j * 4 + 1, none⟩) hablt).trans cw1
            have hl2 : w.heap.size < w2.heap.size := by have := hx.size; omega
            have HRG : ∀ W, Below w2.heap.size w2 W → Hid (Calls Try.prog 20 #[scv s s.rv, .slice q.sa q.sets.length q.sc] W fun e w' => e = .returned (.bool false) ∧ Below W.heap.size W w') := fun W hW => by
              have hbx := hx.trans (hW.mono hx.size)
              have h := rregion_any s s.rv q.sa q.sc q.sets W hs hq.2.1 hq.2.2 ((hq.1.below (hbx.mono (by omega))).more (by have := hbx.size; omega))
              rw [hrg] at h
              exact h
            clear s0 s1 s2 s3 s4 cw0 cw1
            go_wp2
            (refine wp_region_ext (by kernel_rfl) (by kernel_rfl) ?_; (repeat (go_big_quiet_step((go_at_call 20; with_reducible exact Calls.ext_of (HRG _ (Grow.h _)).out)))); with_reducible refine wpQuiet_nil ?_; intro w2 hw2; have hb1 := ext_below hw2; clear hw2)
            have hb2 := hx.trans (hb1.mono hx.size)
            go_wp2
            go_ret
            exact ⟨ret_int HT.out.symm, hbr.trans (hb2.mono hbr.size)⟩
          | true =>
            have HT : Hid (claimsE s cs = claimsE s (cs.drop (j + 1))) := (by rw [HA.out, HD.out, hin, hrg]; rfl : claimsE s cs = claimsE s (cs.drop (j + 1)))
            go_wp2
            (refine wp_region_ext (by kernel_rfl) (by kernel_rfl) ?_; (repeat (go_big_quiet_step((go_at_call 60; first | exact Calls.ext_same (rin_val (by assumption) _))))); with_reducible refine wpQuiet_nil ?_; intro w2 hw2; have hb1 := ext_below hw2; clear hw2)
            have hx := hb1
            have u0 := (hx.cell (p := ⟨w.heap.size, 0, none⟩) l0).trans s0
            have u1 := (hx.cell (p := ⟨w.heap.size, 1, none⟩) l0).trans s1
            have u2 := (hx.cell (p := ⟨w.heap.size, 2, none⟩) l0).trans s2
            have u3 := (hx.cell (p := ⟨w.heap.size, 3, none⟩) l0).trans s3
            have u4 := (hx.cell (p := ⟨w.heap.size, 4, none⟩) l0).trans s4
            have hablt : ab < wr.heap.size := by omega
            have v1 := (hx.cell (p := ⟨ab, ao + j * 4 + 1, none⟩) hablt).trans cw1
            have hl2 : w.heap.size < w2.heap.size := by have := hx.size; omega
            have HRG : ∀ W, Below w2.heap.size w2 W → Hid (Calls Try.prog 20 #[scv s s.rv, .slice q.sa q.sets.length q.sc] W fun e w' => e = .returned (.bool true) ∧ Below W.heap.size W w') := fun W hW => by
              have hbx := hx.trans (hW.mono hx.size)
              have h := rregion_any s s.rv q.sa q.sc q.sets W hs hq.2.1 hq.2.2 ((hq.1.below (hbx.mono (by omega))).more (by have := hbx.size; omega))
              rw [hrg] at h
              exact h
            clear s0 s1 s2 s3 s4 cw0 cw1
            go_wp2
            (refine wp_region_ext (by kernel_rfl) (by kernel_rfl) ?_; (repeat (go_big_quiet_step((go_at_call 20; with_reducible exact Calls.ext_of (HRG _ (Grow.h _)).out)))); with_reducible refine wpQuiet_nil ?_; intro w2 hw2; have hb1 := ext_below hw2; clear hw2)
            have hb2 := hx.trans (hb1.mono hx.size)
            go_wp2
            go_roundw
            case rel => exact ⟨j + 1, by omega, by go_num, hb.trans (hb2.mono hsz), HT⟩
            case measure => simp [intOf]; omega
      · have HT : Hid (claimsX s cs = 0) := (by rw [HX.out, HA.out, List.drop_eq_nil_of_le (by omega)]; rfl : claimsX s cs = 0)
        go_wp2
        go_ret
        exact ⟨ret_int HT.out.symm, hbr⟩
  · have HX : Hid (claimsX s cs = 5) := (by simp [claimsX, h20] : claimsX s cs = 5)
    have d0 : decide (20 < (cs.length : Int)) = true := by simp; omega
    go_enter Try.func25, Try.ntmps25
    go_wp2
    go_ret
    exact ⟨ret_int HX.out.symm, by (repeat (first | exact Below.refl _ _ | assumption | (refine Below.alloc ?_ (by first | omega | (simp; omega) | (simp; done)) _) | (refine Below.setCell ?_ (by first | omega | (simp; omega) | (simp; done)) _) | (refine Below.drew ?_) | (refine belowN ?_ _) | (refine Below.trans ?_ (Below.mono ‹Below _ _ _› (by first | omega | (simp; omega) | (simp; done))))))⟩
end Go.Proofs.Ytidlmbajpbbilaa

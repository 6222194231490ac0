/- almanac: the reference's SolarDay. -/
import Derived.Test.YtfbnllmmoaialaaZ21Fd
namespace Go.Proofs.Ytfbnllmmoaialaa
open Go.RowKit

theorem mon_getD {r : Sol} (ok : SolOk r) {y : Int} (y0 : 0 ≤ y) {k : Nat} (hk : k < 12) : (monL (extraN r y)).getD k 0 = monthN r y ((k : Int) + 1) := by
  rw [mon_at _ hk, monthN_at ok y0 hk]
set_option maxRecDepth 100000 in
set_option maxHeartbeats 8000000 in
theorem rsolarday_any (e b u y m d : Int) (w : World) : Calls Try.prog 43 #[.agg #[.int .i64 e, .int .i64 b, .int .i64 u], .agg #[.int .i64 y, .int .i64 m, .int .i64 d]] w fun en w' => en = .returned (.tuple #[.int .i64 (dayR ⟨e, b, u⟩ ⟨y, m, d⟩).1, .int .i64 (dayR ⟨e, b, u⟩ ⟨y, m, d⟩).2]) ∧ Below w.heap.size w w' := by
  cases hs : solB ⟨e, b, u⟩ with
  | false =>
    have HSV := Lib.hid (fun W => rsolar_val hs W)
    have HT : Hid (dayR ⟨e, b, u⟩ ⟨y, m, d⟩ = (0, 2)) := (by simp [dayR, hs] : dayR ⟨e, b, u⟩ ⟨y, m, d⟩ = _)
    clear hs
    go_enter Try.func43, Try.ntmps43
    go_upto_region 1 with fail
    refine gen_w (fun W => Blk W w.heap.size #[.int .i64 e, .int .i64 b, .int .i64 u] 24 ∧ Blk W (w.heap.size + 1) #[.int .i64 y, .int .i64 m, .int .i64 d] 75 ∧ Below w.heap.size w W) ⟨(Blk.at_ rfl).alloc _, Blk.at_ (by simp), by (repeat (first | exact Below.refl _ _ | assumption | (refine Below.alloc ?_ (by first | omega | (simp; omega) | (simp; done)) _) | (refine Below.setCell ?_ (by first | omega | (simp; omega) | (simp; done)) _) | (refine Below.drew ?_) | (refine belowN ?_ _) | (refine Below.trans ?_ (Below.mono ‹Below _ _ _› (by first | omega | (simp; omega) | (simp; done))))))⟩ ?_
    rintro V0 ⟨g0, g1, hw⟩
    (have c0 := g0.cell 0; have c1 := g0.cell 1; have c2 := g0.cell 2; have s0 := g1.cell 0; have s1 := g1.cell 1; have s2 := g1.cell 2; simp at c0 c1 c2 s0 s1 s2)
    go_wp2_with (go_at_call 44; (with_reducible refine (HSV.out _).mono ?_); rintro _ V1 ⟨rfl, hb1⟩; have hw := bl2 hw hb1; have g0 := g0.below hb1 g0.lt; have g1 := g1.below hb1 g1.lt; (have c0 := g0.cell 0; have c1 := g0.cell 1; have c2 := g0.cell 2; have s0 := g1.cell 0; have s1 := g1.cell 1; have s2 := g1.cell 2; simp at c0 c1 c2 s0 s1 s2))
    refine bodyPost_ret (v := .tuple #[.int .i64 0, .int .i64 2]) (by simp [results, Try.results43, go_sem]) rfl ?_
    rw [HT.out]; exact ⟨rfl, hw⟩
  | true =>
    have HSV := Lib.hid (fun W => rsolar_val hs W)
    have ok := solB_iff.1 hs
    cases hy : inB y 0 4000 with
    | false =>
      have HYV := Lib.hid (fun W => rin_val hy W)
      have HT : Hid (dayR ⟨e, b, u⟩ ⟨y, m, d⟩ = (0, 3)) := (by simp [dayR, hs, hy] : dayR ⟨e, b, u⟩ ⟨y, m, d⟩ = _)
      clear hs hy
      go_enter Try.func43, Try.ntmps43
      go_upto_region 1 with fail
      refine gen_w (fun W => Blk W w.heap.size #[.int .i64 e, .int .i64 b, .int .i64 u] 24 ∧ Blk W (w.heap.size + 1) #[.int .i64 y, .int .i64 m, .int .i64 d] 75 ∧ Below w.heap.size w W) ⟨(Blk.at_ rfl).alloc _, Blk.at_ (by simp), by (repeat (first | exact Below.refl _ _ | assumption | (refine Below.alloc ?_ (by first | omega | (simp; omega) | (simp; done)) _) | (refine Below.setCell ?_ (by first | omega | (simp; omega) | (simp; done)) _) | (refine Below.drew ?_) | (refine belowN ?_ _) | (refine Below.trans ?_ (Below.mono ‹Below _ _ _› (by first | omega | (simp; omega) | (simp; done))))))⟩ ?_
      rintro V0 ⟨g0, g1, hw⟩
      (have c0 := g0.cell 0; have c1 := g0.cell 1; have c2 := g0.cell 2; have s0 := g1.cell 0; have s1 := g1.cell 1; have s2 := g1.cell 2; simp at c0 c1 c2 s0 s1 s2)
      go_wp2_with (first | (go_at_call 44; (with_reducible refine (HSV.out _).mono ?_); rintro _ V1 ⟨rfl, hb1⟩; have hw := bl2 hw hb1; have g0 := g0.below hb1 g0.lt; have g1 := g1.below hb1 g1.lt; (have c0 := g0.cell 0; have c1 := g0.cell 1; have c2 := g0.cell 2; have s0 := g1.cell 0; have s1 := g1.cell 1; have s2 := g1.cell 2; simp at c0 c1 c2 s0 s1 s2)) | (go_at_call 65; (with_reducible refine (HYV.out _).mono ?_); rintro _ _ ⟨rfl, rfl⟩))
      refine bodyPost_ret (v := .tuple #[.int .i64 0, .int .i64 3]) (by simp [results, Try.results43, go_sem]) rfl ?_
      rw [HT.out]; exact ⟨rfl, hw⟩
    | true =>
      have HYV := Lib.hid (fun W => rin_val hy W)
      obtain ⟨y0, y1⟩ := inB_iff.1 hy
      cases hm : inB m 1 12 with
      | false =>
        have HMV := Lib.hid (fun W => rin_val hm W)
        have HT : Hid (dayR ⟨e, b, u⟩ ⟨y, m, d⟩ = (0, 7)) := (by simp [dayR, hs, hy, hm] : dayR ⟨e, b, u⟩ ⟨y, m, d⟩ = _)
        clear hs hy hm
        go_enter Try.func43, Try.ntmps43
        go_upto_region 1 with fail
        refine gen_w (fun W => Blk W w.heap.size #[.int .i64 e, .int .i64 b, .int .i64 u] 24 ∧ Blk W (w.heap.size + 1) #[.int .i64 y, .int .i64 m, .int .i64 d] 75 ∧ Below w.heap.size w W) ⟨(Blk.at_ rfl).alloc _, Blk.at_ (by simp), by (repeat (first | exact Below.refl _ _ | assumption | (refine Below.alloc ?_ (by first | omega | (simp; omega) | (simp; done)) _) | (refine Below.setCell ?_ (by first | omega | (simp; omega) | (simp; done)) _) | (refine Below.drew ?_) | (refine belowN ?_ _) | (refine Below.trans ?_ (Below.mono ‹Below _ _ _› (by first | omega | (simp; omega) | (simp; done))))))⟩ ?_
        rintro V0 ⟨g0, g1, hw⟩
        (have c0 := g0.cell 0; have c1 := g0.cell 1; have c2 := g0.cell 2; have s0 := g1.cell 0; have s1 := g1.cell 1; have s2 := g1.cell 2; simp at c0 c1 c2 s0 s1 s2)
        go_upto_region 5 with (first | (go_at_call 44; (with_reducible refine (HSV.out _).mono ?_); rintro _ V1 ⟨rfl, hb1⟩; have hw := bl2 hw hb1; have g0 := g0.below hb1 g0.lt; have g1 := g1.below hb1 g1.lt; (have c0 := g0.cell 0; have c1 := g0.cell 1; have c2 := g0.cell 2; have s0 := g1.cell 0; have s1 := g1.cell 1; have s2 := g1.cell 2; simp at c0 c1 c2 s0 s1 s2)) | (go_at_call 65; (with_reducible refine (HYV.out _).mono ?_); rintro _ _ ⟨rfl, rfl⟩))
        clear hb1
        (refine wp_region_ext (by kernel_rfl) (by kernel_rfl) ?_; (repeat (go_big_quiet_step((go_at_call 65; with_reducible exact Calls.ext_same (HMV.out _))))); with_reducible refine wpQuiet_nil ?_; intro w1 hw1; have hb1 := ext_below hw1; clear hw1)
        have hw := bl2 hw hb1
        go_wp2_with fail
        refine bodyPost_ret (v := .tuple #[.int .i64 0, .int .i64 7]) (by simp [results, Try.results43, go_sem]) rfl ?_
        rw [HT.out]; exact ⟨rfl, hw⟩
      | true =>
        have HMV := Lib.hid (fun W => rin_val hm W)
        obtain ⟨m0, m1⟩ := inB_iff.1 hm
        obtain ⟨j, hj⟩ : ∃ j : Nat, m = (j : Int) + 1 := ⟨(m - 1).toNat, by omega⟩
        have hj12 : j < 12 := by omega
        have ej : (m - 1).toNat = j := by omega
        have HDR : Hid (dayR ⟨e, b, u⟩ ⟨y, m, d⟩ = if inB d 1 (monthN ⟨e, b, u⟩ y m) then
          (if inB (begI ⟨e, b, u⟩ y + d - 1 + ((monL (extraN ⟨e, b, u⟩ y)).take j).sum) 0 1000000 then (begI ⟨e, b, u⟩ y + d - 1 + ((monL (extraN ⟨e, b, u⟩ y)).take j).sum, 0) else (0, 3)) else (0, 7)) := (by
            simp only [dayR, hs, hy, hm, if_true]
            rw [ej, mon_getD ok y0 hj12, ← hj]
            rfl : dayR ⟨e, b, u⟩ ⟨y, m, d⟩ = _)
        have HM := Lib.hid (fun W => rmonth_any e b u y m W ok y0 (by omega))
        have hMb := monthN_bd ⟨e, b, u⟩ y m
        obtain ⟨N, hN⟩ : ∃ N, N = monthN ⟨e, b, u⟩ y m := ⟨_, rfl⟩
        rw [← hN] at HM HDR hMb
        have HJ := Lib.hid hj
        have HOK := Lib.hid ok
        clear hs hy hm hN ej hj ok
        cases hd1 : inB d 1 N with
        | false =>
          have HNV := Lib.hid (fun W => rin_val hd1 W)
          have HT : Hid (dayR ⟨e, b, u⟩ ⟨y, m, d⟩ = (0, 7)) := (by rw [HDR.out, hd1]; rfl : dayR ⟨e, b, u⟩ ⟨y, m, d⟩ = _)
          clear hd1 HDR
          go_enter Try.func43, Try.ntmps43
          go_upto_region 1 with fail
          refine gen_w (fun W => Blk W w.heap.size #[.int .i64 e, .int .i64 b, .int .i64 u] 24 ∧ Blk W (w.heap.size + 1) #[.int .i64 y, .int .i64 m, .int .i64 d] 75 ∧ Below w.heap.size w W) ⟨(Blk.at_ rfl).alloc _, Blk.at_ (by simp), by (repeat (first | exact Below.refl _ _ | assumption | (refine Below.alloc ?_ (by first | omega | (simp; omega) | (simp; done)) _) | (refine Below.setCell ?_ (by first | omega | (simp; omega) | (simp; done)) _) | (refine Below.drew ?_) | (refine belowN ?_ _) | (refine Below.trans ?_ (Below.mono ‹Below _ _ _› (by first | omega | (simp; omega) | (simp; done))))))⟩ ?_
          rintro V0 ⟨g0, g1, hw⟩
          (have c0 := g0.cell 0; have c1 := g0.cell 1; have c2 := g0.cell 2; have s0 := g1.cell 0; have s1 := g1.cell 1; have s2 := g1.cell 2; simp at c0 c1 c2 s0 s1 s2)
          go_upto_region 5 with (first | (go_at_call 44; (with_reducible refine (HSV.out _).mono ?_); rintro _ V1 ⟨rfl, hb1⟩; have hw := bl2 hw hb1; have g0 := g0.below hb1 g0.lt; have g1 := g1.below hb1 g1.lt; (have c0 := g0.cell 0; have c1 := g0.cell 1; have c2 := g0.cell 2; have s0 := g1.cell 0; have s1 := g1.cell 1; have s2 := g1.cell 2; simp at c0 c1 c2 s0 s1 s2)) | (go_at_call 65; (with_reducible refine (HYV.out _).mono ?_); rintro _ _ ⟨rfl, rfl⟩))
          clear hb1
          (refine wp_region_ext (by kernel_rfl) (by kernel_rfl) ?_; (repeat (go_big_quiet_step((first | (go_at_call 65; with_reducible exact Calls.ext_same (HMV.out _)) | (go_at_call 65; with_reducible exact Calls.ext_same (HNV.out _)) | (go_at_call 82; with_reducible exact Calls.ext_of (HM.out _)))))); with_reducible refine wpQuiet_nil ?_; intro w1 hw1; have hb1 := ext_below hw1; clear hw1)
          have hw := bl2 hw hb1
          go_wp2_with fail
          refine bodyPost_ret (v := .tuple #[.int .i64 0, .int .i64 7]) (by simp [results, Try.results43, go_sem]) rfl ?_
          rw [HT.out]; exact ⟨rfl, hw⟩
        | true =>
          have HNV := Lib.hid (fun W => rin_val hd1 W)
          obtain ⟨d0, d1⟩ := inB_iff.1 hd1
          have HT : Hid (dayR ⟨e, b, u⟩ ⟨y, m, d⟩ = if inB (begI ⟨e, b, u⟩ y + d - 1 + ((monL (extraN ⟨e, b, u⟩ y)).take j).sum) 0 1000000 then (begI ⟨e, b, u⟩ y + d - 1 + ((monL (extraN ⟨e, b, u⟩ y)).take j).sum, 0) else (0, 3)) := (by rw [HDR.out, hd1]; rfl : dayR ⟨e, b, u⟩ ⟨y, m, d⟩ = _)
          have w0 : IntKind.i64.wrap (d - 1) = d - 1 := IntWalk.i64_in _ ⟨by omega, by omega⟩
          obtain ⟨Y, hY⟩ := Int.eq_ofNat_of_zero_le y0
          have HYY := Lib.hid hY
          clear hd1 HDR hY
          go_enter Try.func43, Try.ntmps43
          go_upto_region 1 with fail
          refine gen_w (fun W => Blk W w.heap.size #[.int .i64 e, .int .i64 b, .int .i64 u] 24 ∧ Blk W (w.heap.size + 1) #[.int .i64 y, .int .i64 m, .int .i64 d] 75 ∧ Below w.heap.size w W) ⟨(Blk.at_ rfl).alloc _, Blk.at_ (by simp), by (repeat (first | exact Below.refl _ _ | assumption | (refine Below.alloc ?_ (by first | omega | (simp; omega) | (simp; done)) _) | (refine Below.setCell ?_ (by first | omega | (simp; omega) | (simp; done)) _) | (refine Below.drew ?_) | (refine belowN ?_ _) | (refine Below.trans ?_ (Below.mono ‹Below _ _ _› (by first | omega | (simp; omega) | (simp; done))))))⟩ ?_
          rintro V0 ⟨g0, g1, hw⟩
          (have c0 := g0.cell 0; have c1 := g0.cell 1; have c2 := g0.cell 2; have s0 := g1.cell 0; have s1 := g1.cell 1; have s2 := g1.cell 2; simp at c0 c1 c2 s0 s1 s2)
          go_upto_region 5 with (first | (go_at_call 44; (with_reducible refine (HSV.out _).mono ?_); rintro _ V1 ⟨rfl, hb1⟩; have hw := bl2 hw hb1; have g0 := g0.below hb1 g0.lt; have g1 := g1.below hb1 g1.lt; (have c0 := g0.cell 0; have c1 := g0.cell 1; have c2 := g0.cell 2; have s0 := g1.cell 0; have s1 := g1.cell 1; have s2 := g1.cell 2; simp at c0 c1 c2 s0 s1 s2)) | (go_at_call 65; (with_reducible refine (HYV.out _).mono ?_); rintro _ _ ⟨rfl, rfl⟩))
          clear hb1
          (refine wp_region_ext (by kernel_rfl) (by kernel_rfl) ?_; (repeat (go_big_quiet_step((first | (go_at_call 65; with_reducible exact Calls.ext_same (HMV.out _)) | (go_at_call 65; with_reducible exact Calls.ext_same (HNV.out _)) | (go_at_call 82; with_reducible exact Calls.ext_of (HM.out _)))))); with_reducible refine wpQuiet_nil ?_; intro w1 hw1; have hb1 := ext_below hw1; clear hw1)
          have hw := bl2 hw hb1
          have g0 := g0.below hb1 g0.lt
          have g1 := g1.below hb1 g1.lt
          clear hb1 c0 c1 c2 s0 s1 s2
          (have c0 := g0.cell 0; have c1 := g0.cell 1; have c2 := g0.cell 2; have s0 := g1.cell 0; have s1 := g1.cell 1; have s2 := g1.cell 2; simp at c0 c1 c2 s0 s1 s2)
          go_upto_region 9 with fail
          have HZ := Lib.hid (begI_zero HOK.out)
          go_loopw [6, 7] (fun a i wr => ∃ k : Nat, k ≤ Y ∧ i = .int .i64 k ∧ a = .int .i64 (d - 1 + begI ⟨e, b, u⟩ k) ∧ Hid (Below w.heap.size w wr) ∧ Blk wr w.heap.size #[.int .i64 e, .int .i64 b, .int .i64 u] 24 ∧ Blk wr (w.heap.size + 1) #[.int .i64 y, .int .i64 m, .int .i64 d] 75) (fun _ i _ => Y - (intOf i).toNat)
          case atStart => exact ⟨0, by omega, rfl, by rw [show ((0 : Nat) : Int) = 0 from rfl, HZ.out, Int.add_zero], hw, g0, g1⟩
          case round =>
            clear hw g0 g1 c0 c1 c2 s0 s1 s2
            obtain ⟨k, hk, rfl, rfl, hbw, g0, g1⟩ := hrel
            have hw := hbw.out
            (have c0 := g0.cell 0; have c1 := g0.cell 1; have c2 := g0.cell 2; have s0 := g1.cell 0; have s1 := g1.cell 1; have s2 := g1.cell 2; simp at c0 c1 c2 s0 s1 s2)
            have HBD := Lib.hid (begI_bd HOK.out k)
            by_cases hlt : k < Y
            · have t1 : decide ((k : Int) < y) = true := by have := HYY.out; simp; omega
              have HYR := Lib.hid (fun W => ryear_any e b u k W HOK.out (by omega) (by have := HYY.out; omega))
              have HST : Hid (d - 1 + begI ⟨e, b, u⟩ k + yearN ⟨e, b, u⟩ k = d - 1 + begI ⟨e, b, u⟩ ((k + 1 : Nat) : Int)) := (by
                have := begI_step HOK.out (y := (k : Int)) (by omega)
                rw [show ((k + 1 : Nat) : Int) = (k : Int) + 1 by omega, this]; omega : _ = _)
              have hNb := yearN_bd ⟨e, b, u⟩ k
              obtain ⟨YN, hYN⟩ : ∃ N, N = yearN ⟨e, b, u⟩ k := ⟨_, rfl⟩
              obtain ⟨M, hM⟩ : ∃ N, N = d - 1 + begI ⟨e, b, u⟩ k := ⟨_, rfl⟩
              have hM0 : 0 ≤ M ∧ M ≤ 366 * 4001 + 31 := by have := HBD.out; have := HYY.out; omega
              rw [← hYN] at HYR HST hNb
              rw [← hM] at HST ⊢
              have v1 : IntKind.i64.wrap (M + YN) = M + YN := IntWalk.i64_in _ ⟨by omega, by omega⟩
              have v2 : IntKind.i64.wrap ((k : Int) + 1) = (k : Int) + 1 := IntWalk.i64_in _ ⟨by omega, by have := HYY.out; omega⟩
              clear hYN hM hbw
              go_wp2_with (go_at_call 83; (with_reducible refine (HYR.out _).mono ?_); rintro _ V1 ⟨rfl, hb1⟩; have hw := bl2 hw hb1; have g0 := g0.below hb1 g0.lt; have g1 := g1.below hb1 g1.lt; (have c0 := g0.cell 0; have c1 := g0.cell 1; have c2 := g0.cell 2; have s0 := g1.cell 0; have s1 := g1.cell 1; have s2 := g1.cell 2; simp at c0 c1 c2 s0 s1 s2))
              go_roundw
              case rel => exact ⟨k + 1, by omega, by rw [show ((k + 1 : Nat) : Int) = (k : Int) + 1 by omega], by rw [HST.out], hw, g0, g1⟩
              case measure => simp only [intOf]; omega
            · obtain rfl : k = Y := by omega
              have hyk : (k : Int) = y := HYY.out.symm
              have t1 : decide ((k : Int) < y) = false := by simp; omega
              have HYK := Lib.hid hyk
              have hX := extra_bd2 HOK.out y0
              obtain ⟨X, hXe⟩ : ∃ X, X = extraN ⟨e, b, u⟩ y := ⟨_, rfl⟩
              rw [← hXe] at hX
              have HX := Lib.hid hXe
              rw [← hXe] at HT
              obtain ⟨M, hM⟩ : ∃ N, N = d - 1 + begI ⟨e, b, u⟩ k := ⟨_, rfl⟩
              have hM0 : 0 ≤ M ∧ M ≤ 366 * 4001 + 31 := by have := HBD.out; omega
              rw [← hM]
              have HMM : Hid (begI ⟨e, b, u⟩ y + d - 1 = M) := (by rw [hM, hyk]; omega : _ = _)
              rw [HMM.out] at HT
              have HSB : Hid (∀ q, 0 ≤ ((monL X).take q).sum ∧ ((monL X).take q).sum ≤ 366) := (fun q => sum_mon (by omega) q : ∀ q, 0 ≤ ((monL X).take q).sum ∧ ((monL X).take q).sum ≤ 366)
              clear hM hXe hyk HYY HBD hk hlt hbw
              go_upto_region 13 with fail
              rename World => W3
              go_loopw [6, 8] (fun a i wr => ∃ k : Nat, k ≤ j ∧ i = .int .i64 ((k : Int) + 1) ∧ a = .int .i64 (M + ((monL X).take k).sum) ∧ Hid (Below w.heap.size w wr) ∧ Blk wr w.heap.size #[.int .i64 e, .int .i64 b, .int .i64 u] 24 ∧ Blk wr (w.heap.size + 1) #[.int .i64 y, .int .i64 m, .int .i64 d] 75) (fun _ i _ => j + 1 - (intOf i).toNat)
              case atStart => exact ⟨0, by omega, rfl, by simp, hw, g0, g1⟩
              case round =>
                clear hw g0 g1 c0 c1 c2 s0 s1 s2
                obtain ⟨q, hq, rfl, rfl, hbw, g0, g1⟩ := hrel
                have hw := hbw.out
                have hsb := HSB.out q
                (have c0 := g0.cell 0; have c1 := g0.cell 1; have c2 := g0.cell 2; have s0 := g1.cell 0; have s1 := g1.cell 1; have s2 := g1.cell 2; simp at c0 c1 c2 s0 s1 s2)
                by_cases hlt : q < j
                · have t2 : decide ((q : Int) + 1 < m) = true := by have := HJ.out; simp; omega
                  have HMR := Lib.hid (fun W => rmonth_any e b u y ((q : Int) + 1) W HOK.out y0 (by omega))
                  have hMb2 := monthN_bd ⟨e, b, u⟩ y ((q : Int) + 1)
                  have HST : Hid (M + ((monL X).take q).sum + monthN ⟨e, b, u⟩ y ((q : Int) + 1) = M + ((monL X).take (q + 1)).sum) := (by
                    have hq12 : q < (monL X).length := by show q < 12; omega
                    rw [List.take_succ_eq_append_getElem hq12, List.sum_append]
                    have h1 := HX.out
                    subst h1
                    rw [monthN_at HOK.out y0 hq12]; simp; omega : _ = _)
                  obtain ⟨YN, hYN⟩ : ∃ N, N = monthN ⟨e, b, u⟩ y ((q : Int) + 1) := ⟨_, rfl⟩
                  obtain ⟨M2, hM2⟩ : ∃ N, N = M + ((monL X).take q).sum := ⟨_, rfl⟩
                  have hM20 : 0 ≤ M2 ∧ M2 ≤ 366 * 4003 + 31 := by omega
                  rw [← hYN] at HMR HST hMb2
                  rw [← hM2] at HST ⊢
                  have v1 : IntKind.i64.wrap (M2 + YN) = M2 + YN := IntWalk.i64_in _ ⟨by omega, by omega⟩
                  have v2 : IntKind.i64.wrap ((q : Int) + 1 + 1) = (q : Int) + 1 + 1 := IntWalk.i64_in _ ⟨by omega, by omega⟩
                  clear hYN hM2 hbw hsb
                  go_wp2_with (go_at_call 82; (with_reducible refine (HMR.out _).mono ?_); rintro _ V1 ⟨rfl, hb1⟩; have hw := bl2 hw hb1; have g0 := g0.below hb1 g0.lt; have g1 := g1.below hb1 g1.lt; (have c0 := g0.cell 0; have c1 := g0.cell 1; have c2 := g0.cell 2; have s0 := g1.cell 0; have s1 := g1.cell 1; have s2 := g1.cell 2; simp at c0 c1 c2 s0 s1 s2))
                  go_roundw
                  case rel => exact ⟨q + 1, by omega, by rw [show ((q + 1 : Nat) : Int) = (q : Int) + 1 by omega], by rw [HST.out], hw, g0, g1⟩
                  case measure => simp only [intOf]; omega
                · obtain rfl : q = j := by omega
                  have t2 : decide ((q : Int) + 1 < m) = false := by have := HJ.out; simp; omega
                  obtain ⟨M2, hM2⟩ : ∃ N, N = M + ((monL X).take q).sum := ⟨_, rfl⟩
                  rw [← hM2] at HT ⊢
                  clear hM2 hsb
                  cases hdd : inB M2 0 1000000 with
                  | false =>
                    have HDV := Lib.hid (fun W => rday_val hdd W)
                    rw [hdd] at HT
                    clear hdd
                    go_wp2_with (go_at_call 28; refine (HDV.out _).mono ?_; rintro _ _ ⟨rfl, rfl⟩)
                    refine bodyPost_ret (v := .tuple #[.int .i64 0, .int .i64 3]) (by simp [results, Try.results43, go_sem]) rfl ?_
                    rw [HT.out]; exact ⟨rfl, hw⟩
                  | true =>
                    have HDV := Lib.hid (fun W => rday_val hdd W)
                    rw [hdd] at HT
                    clear hdd
                    go_wp2_with (go_at_call 28; refine (HDV.out _).mono ?_; rintro _ _ ⟨rfl, rfl⟩)
                    refine bodyPost_ret (v := .tuple #[.int .i64 M2, .int .i64 0]) (by simp [results, Try.results43, go_sem]) rfl ?_
                    rw [HT.out]; exact ⟨rfl, hw⟩
end Go.Proofs.Ytfbnllmmoaialaa
namespace Go.Proofs.Ytfbnllmmoaialaa
open Go.RowKit

set_option maxRecDepth 100000 in
set_option maxHeartbeats 4000000 in
theorem rdate_any (e b u d : Int) (w : World) (ok : SolOk ⟨e, b, u⟩) (d0 : 0 ≤ d) (d1 : d ≤ 1000000) :
    Calls Try.prog 45 #[.agg #[.int .i64 e, .int .i64 b, .int .i64 u], .int .i64 d] w fun en w' => en = .returned (.agg #[.int .i64 (solI ⟨e, b, u⟩ d).y, .int .i64 (solI ⟨e, b, u⟩ d).m, .int .i64 (solI ⟨e, b, u⟩ d).d]) ∧ Below w.heap.size w w' := by
  have HOK := Lib.hid ok
  have n02 : w.heap.size ≠ w.heap.size + 1 + 1 := by omega
  have n12 : w.heap.size + 1 ≠ w.heap.size + 1 + 1 := by omega
  have HZ := Lib.hid (begI_zero ok)
  go_enter Try.func45, Try.ntmps45
  go_upto_region 1 with fail
  refine gen_w (fun W => W.heap.size = w.heap.size + 1 + 1 ∧ Blk W w.heap.size #[.int .i64 e, .int .i64 b, .int .i64 u] 24 ∧ Blk W (w.heap.size + 1) #[.int .i64 0, .int .i64 0, .int .i64 0] 75 ∧ Below w.heap.size w W) ⟨by simp, (Blk.at_ rfl).alloc _, Blk.at_ (by simp), by (repeat (first | exact Below.refl _ _ | assumption | (refine Below.alloc ?_ (by first | omega | (simp; omega) | (simp; done)) _) | (refine Below.setCell ?_ (by first | omega | (simp; omega) | (simp; done)) _) | (refine Below.drew ?_) | (refine belowN ?_ _) | (refine Below.trans ?_ (Below.mono ‹Below _ _ _› (by first | omega | (simp; omega) | (simp; done))))))⟩ ?_
  rintro W1 ⟨hsz, g0, g1, hw⟩
  go_wp2_with fail
  go_loopw [1] (fun v wr => ∃ (y : Nat) (D : Int), v = .int .i64 D ∧ Hid (D = d - begI ⟨e, b, u⟩ y) ∧ 0 ≤ D ∧ y ≤ 2740 ∧ Hid (Below w.heap.size w wr) ∧ Blk wr w.heap.size #[.int .i64 e, .int .i64 b, .int .i64 u] 24 ∧ Blk wr (w.heap.size + 1) #[.int .i64 0, .int .i64 0, .int .i64 0] 75 ∧ Blk wr (w.heap.size + 1 + 1) #[.int .i64 y, .int .i64 1, .int .i64 0] 75)  (fun v _ => (intOf v).toNat)
  case atStart =>
    refine ⟨0, d, rfl, (by have := HZ.out; simp only [Int.natCast_zero]; omega : d = _), d0, by omega, ?_⟩
    exact ⟨hw.alloc hw.size _, g0.alloc _, g1.alloc _, Blk.at_ hsz.symm⟩
  case round =>
    obtain ⟨y, D, rfl, HD, hD0, hy, hbw, g0, g1, g2⟩ := hrel
    have hw := hbw.out
    have c0 := g0.cell 0; have c1 := g0.cell 1; have c2 := g0.cell 2; have s0 := g2.cell 0; have s1 := g2.cell 1; have s2 := g2.cell 2
    simp at c0 c1 c2 s0 s1 s2
    have f0 := g2.free 0; have f1 := g2.free 1; have f2 := g2.free 2
    have HY := Lib.hid (fun W => ryear_any e b u y W HOK.out (by omega) (by omega))
    have hNb := yearN_bd ⟨e, b, u⟩ y
    have HST := Lib.hid (begI_step HOK.out (y := (y : Int)) (by omega))
    have HBD := Lib.hid (begI_bd HOK.out y)
    obtain ⟨N, hN⟩ : ∃ N, N = yearN ⟨e, b, u⟩ y := ⟨_, rfl⟩
    rw [← hN] at HY hNb HST
    have HN := Lib.hid hN
    clear hN hbw
    by_cases hc : N ≤ D
    · have t1 : decide (N ≤ D) = true := by simpa using hc
      have hD1 : D ≤ 1000000 := by have := HD.out; have := HBD.out; omega
      have v1 : IntKind.i64.wrap (D - N) = D - N := IntWalk.i64_in _ ⟨by omega, by omega⟩
      have v2 : IntKind.i64.wrap ((y : Int) + 1) = (y : Int) + 1 := IntWalk.i64_in _ ⟨by omega, by omega⟩
      go_wp2_with (go_at_call 83; (with_reducible refine (HY.out _).mono ?_); rintro _ V1 ⟨rfl, hb1⟩; have hw := bl2 hw hb1; have g0 := g0.below hb1 g0.lt; have g1 := g1.below hb1 g1.lt; have g2 := g2.below hb1 g2.lt; have c0 := g0.cell 0; have c1 := g0.cell 1; have c2 := g0.cell 2; have s0 := g2.cell 0; have s1 := g2.cell 1; have s2 := g2.cell 2; simp at c0 c1 c2 s0 s1 s2; have f0 := g2.free 0; have f1 := g2.free 1; have f2 := g2.free 2)
      go_roundw
      case rel =>
        refine ⟨y + 1, D - N, rfl, (by have := HD.out; have := HST.out; rw [show ((y + 1 : Nat) : Int) = (y : Int) + 1 by omega]; omega : D - N = _), by omega, by have := HD.out; have := HBD.out; omega, ?_⟩
        refine ⟨hw.setCell (p := ⟨w.heap.size + 1 + 1, 0, none⟩) (by show w.heap.size ≤ w.heap.size + 1 + 1; omega) _, g0.far ⟨w.heap.size + 1 + 1, 0, none⟩ n02 _, g1.far ⟨w.heap.size + 1 + 1, 0, none⟩ n12 _, ?_⟩
        have h3 := g2.set 0 (.int .i64 ((y : Int) + 1))
        simpa using h3
      case measure => simp [intOf]; omega
    · have t1 : decide (N ≤ D) = false := by simpa using hc
      have HYI : Hid (yearI ⟨e, b, u⟩ d = y) := (by
        have h1 := HD.out; have h2 := HST.out
        exact yearI_is HOK.out (by omega) (by omega) hy : _ = y)
      go_upto_region 5 with (go_at_call 83; (with_reducible refine (HY.out _).mono ?_); rintro _ V1 ⟨rfl, hb1⟩; have hw := bl2 hw hb1; have g0 := g0.below hb1 g0.lt; have g1 := g1.below hb1 g1.lt; have g2 := g2.below hb1 g2.lt; have c0 := g0.cell 0; have c1 := g0.cell 1; have c2 := g0.cell 2; have s0 := g2.cell 0; have s1 := g2.cell 1; have s2 := g2.cell 2; simp at c0 c1 c2 s0 s1 s2; have f0 := g2.free 0; have f1 := g2.free 1; have f2 := g2.free 2)
      obtain ⟨X, hX⟩ : ∃ X, X = extraN ⟨e, b, u⟩ y := ⟨_, rfl⟩
      have HX := Lib.hid hX
      have HSM : Hid (D < (monL X).sum) := (by
        rw [monL_sum, hX]; have h1 := HST.out; unfold extraN; omega : D < _)
      clear hX t1 hc HST
      go_loopw [1] (fun v wr => ∃ (k : Nat) (D2 : Int), v = .int .i64 D2 ∧ Hid (D2 = D - ((monL X).take k).sum) ∧ 0 ≤ D2 ∧ k ≤ 11 ∧ Hid (Below w.heap.size w wr) ∧ Blk wr w.heap.size #[.int .i64 e, .int .i64 b, .int .i64 u] 24 ∧ Blk wr (w.heap.size + 1) #[.int .i64 0, .int .i64 0, .int .i64 0] 75 ∧ Blk wr (w.heap.size + 1 + 1) #[.int .i64 y, .int .i64 ((k : Int) + 1), .int .i64 0] 75)  (fun v _ => (intOf v).toNat)
      case atStart => exact ⟨0, D, rfl, (by simp : D = _), hD0, by omega, hw, g0, g1, g2⟩
      case round =>
        obtain ⟨k, D2, rfl, HD2, hD20, hk, hbw, g0, g1, g2⟩ := hrel
        have hw := hbw.out
        have c0 := g0.cell 0; have c1 := g0.cell 1; have c2 := g0.cell 2; have s0 := g2.cell 0; have s1 := g2.cell 1; have s2 := g2.cell 2
        simp at c0 c1 c2 s0 s1 s2
        have f0 := g2.free 0; have f1 := g2.free 1; have f2 := g2.free 2
        have hk12 : k < (monL X).length := by show k < 12; omega
        have HM := Lib.hid (fun W => rmonth_any e b u y ((k : Int) + 1) W HOK.out (by omega) (by omega))
        have HMN : Hid ((monL X)[k] = monthN ⟨e, b, u⟩ y ((k : Int) + 1)) := (by
          have h1 := HX.out
          subst h1
          exact monthN_at HOK.out (by omega) hk12 : (monL X)[k] = _)
        have hMb := monthN_bd ⟨e, b, u⟩ y ((k : Int) + 1)
        obtain ⟨MN, hMN⟩ : ∃ M, M = monthN ⟨e, b, u⟩ y ((k : Int) + 1) := ⟨_, rfl⟩
        rw [← hMN] at HM hMb HMN
        have hD21 : D2 ≤ 1000000 := by
          have h1 := HD2.out; have h2 := HD.out
          have h3 : 0 ≤ ((monL X).take k).sum := take_nn (monL_nn (by rw [HX.out]; exact (extra_bd2 HOK.out (by omega)).1)) k
          have h4 := HBD.out
          omega
        clear hMN hbw
        by_cases hc2 : MN ≤ D2
        · have t2 : decide (MN ≤ D2) = true := by simpa using hc2
          have v1 : IntKind.i64.wrap (D2 - MN) = D2 - MN := IntWalk.i64_in _ ⟨by omega, by omega⟩
          have v2 : IntKind.i64.wrap ((k : Int) + 1 + 1) = (k : Int) + 1 + 1 := IntWalk.i64_in _ ⟨by omega, by omega⟩
          have HS2 : Hid (((monL X).take (k + 1)).sum = ((monL X).take k).sum + MN) := (by
            rw [List.take_succ_eq_append_getElem hk12, List.sum_append, HMN.out]; simp : _ = _)
          have hk11 : k + 1 ≤ 11 := by
            by_cases h : k + 1 ≤ 11
            · exact h
            · have h12 : k + 1 = 12 := by omega
              have h1 := HS2.out; have h2 := HSM.out; have h3 := HD2.out
              rw [h12, show (monL X).take 12 = monL X from List.take_of_length_le (Nat.le_refl _)] at h1
              omega
          go_wp2_with (go_at_call 82; (with_reducible refine (HM.out _).mono ?_); rintro _ V1 ⟨rfl, hb1⟩; have hw := bl2 hw hb1; have g0 := g0.below hb1 g0.lt; have g1 := g1.below hb1 g1.lt; have g2 := g2.below hb1 g2.lt; have c0 := g0.cell 0; have c1 := g0.cell 1; have c2 := g0.cell 2; have s0 := g2.cell 0; have s1 := g2.cell 1; have s2 := g2.cell 2; simp at c0 c1 c2 s0 s1 s2; have f0 := g2.free 0; have f1 := g2.free 1; have f2 := g2.free 2)
          go_roundw
          case rel =>
            refine ⟨k + 1, D2 - MN, rfl, (by have := HD2.out; have := HS2.out; omega : D2 - MN = _), by omega, hk11, ?_⟩
            refine ⟨hw.setCell (p := ⟨w.heap.size + 1 + 1, 1, none⟩) (by show w.heap.size ≤ w.heap.size + 1 + 1; omega) _, g0.far ⟨w.heap.size + 1 + 1, 1, none⟩ n02 _, g1.far ⟨w.heap.size + 1 + 1, 1, none⟩ n12 _, ?_⟩
            have h3 := g2.set 1 (.int .i64 ((k : Int) + 1 + 1))
            rw [show ((k + 1 : Nat) : Int) = (k : Int) + 1 by omega]
            simpa using h3
          case measure => simp [intOf]; omega
        · have t2 : decide (MN ≤ D2) = false := by simpa using hc2
          have v1 : IntKind.i64.wrap (D2 + 1) = D2 + 1 := IntWalk.i64_in _ ⟨by omega, by omega⟩
          have HR : Hid (solI ⟨e, b, u⟩ d = ⟨(y : Int), (k : Int) + 1, D2 + 1⟩) := (by
            have h1 := HX.out
            subst h1
            exact solI_is HOK.out hy hk12 (by omega) (by rw [HMN.out]; omega) (by have := HD2.out; have := HD.out; omega) : _ = _)
          go_upto_region 8 with (go_at_call 82; (with_reducible refine (HM.out _).mono ?_); rintro _ V1 ⟨rfl, hb1⟩; have hw := bl2 hw hb1; have g0 := g0.below hb1 g0.lt; have g1 := g1.below hb1 g1.lt; have g2 := g2.below hb1 g2.lt; have c0 := g0.cell 0; have c1 := g0.cell 1; have c2 := g0.cell 2; have s0 := g2.cell 0; have s1 := g2.cell 1; have s2 := g2.cell 2; simp at c0 c1 c2 s0 s1 s2; have f0 := g2.free 0; have f1 := g2.free 1; have f2 := g2.free 2)
          have h0 := g1.free 0; have h1 := g1.free 1; have h2 := g1.free 2
          have k0 := g1.cell 0; have k1 := g1.cell 1; have k2 := g1.cell 2
          simp at k0 k1 k2
          go_wp2_with fail
          have hle3 : w.heap.size ≤ w.heap.size + 1 + 1 := by omega
          have hle2 : w.heap.size ≤ w.heap.size + 1 := by omega
          have g3 := blk3 (g1.far ⟨w.heap.size + 1 + 1, 2, none⟩ n12 (.int .i64 (D2 + 1))) (.int .i64 y) (.int .i64 ((k : Int) + 1)) (.int .i64 (D2 + 1))
          have hw3 := (((hw.setCell (p := ⟨w.heap.size + 1 + 1, 2, none⟩) hle3 (.int .i64 (D2 + 1))).setCell (p := ⟨w.heap.size + 1, 0, none⟩) hle2 (.int .i64 y)).setCell (p := ⟨w.heap.size + 1, 1, none⟩) hle2 (.int .i64 ((k : Int) + 1))).setCell (p := ⟨w.heap.size + 1, 2, none⟩) hle2 (.int .i64 (D2 + 1))
          generalize (((V1.setCell ⟨w.heap.size + 1 + 1, 2, none⟩ (.int .i64 (D2 + 1))).setCell ⟨w.heap.size + 1, 0, none⟩ (.int .i64 y)).setCell ⟨w.heap.size + 1, 1, none⟩ (.int .i64 ((k : Int) + 1))).setCell ⟨w.heap.size + 1, 2, none⟩ (.int .i64 (D2 + 1)) = W3 at g3 hw3 ⊢
          have q0 := g3.cell 0; have q1 := g3.cell 1; have q2 := g3.cell 2
          simp at q0 q1 q2
          refine bodyPost_ret (v := .agg #[.int .i64 y, .int .i64 ((k : Int) + 1), .int .i64 (D2 + 1)]) (by simp [results, Try.results45, go_sem, q0, q1, q2]) rfl ?_
          rw [HR.out]
          exact ⟨rfl, hw3⟩
end Go.Proofs.Ytfbnllmmoaialaa

/- almanac: the law AlmanacSuns returns true. -/
import Derived.Test.YtfbnllmmoaialaaB20Fa
import Derived.Test.YtfbnllmmoaialaaZ22RfE
namespace Go.Proofs.Ytfbnllmmoaialaa
open Go.RowKit

theorem solarRV {e b u day xa xb xc er : Int} (h : solarR ⟨e, b, u⟩ day = (⟨xa, xb, xc⟩, er)) (w : World) : Calls Try.prog 41 #[.agg #[.int .i64 e, .int .i64 b, .int .i64 u], .int .i64 day] w fun en w' => en = .returned (.tuple #[.agg #[.int .i64 xa, .int .i64 xb, .int .i64 xc], .int .i64 er]) ∧ Below w.heap.size w w' := by
  have h2 := solarF_any e b u day w
  rw [h] at h2
  exact h2
theorem sdayPV {e b u y m d n g : Int} (h : dayR ⟨e, b, u⟩ ⟨y, m, d⟩ = (n, g)) (w : World) : Calls Try.prog 42 #[.agg #[.int .i64 e, .int .i64 b, .int .i64 u], .agg #[.int .i64 y, .int .i64 m, .int .i64 d]] w fun en w' => en = .returned (.tuple #[.int .i64 n, .int .i64 g]) ∧ Below w.heap.size w w' := by
  have h2 := solarDay_all e b u y m d w
  rw [h] at h2
  exact h2
theorem sdayRV {e b u y m d n g : Int} (h : dayR ⟨e, b, u⟩ ⟨y, m, d⟩ = (n, g)) (w : World) : Calls Try.prog 43 #[.agg #[.int .i64 e, .int .i64 b, .int .i64 u], .agg #[.int .i64 y, .int .i64 m, .int .i64 d]] w fun en w' => en = .returned (.tuple #[.int .i64 n, .int .i64 g]) ∧ Below w.heap.size w w' := by
  have h2 := rsolarday_any e b u y m d w
  rw [h] at h2
  exact h2
theorem sdateRV {e b u day xa xb xc : Int} (hs : solB ⟨e, b, u⟩ = true) (d0 : 0 ≤ day) (d1 : day ≤ 1000000) (h : solI ⟨e, b, u⟩ day = ⟨xa, xb, xc⟩) (w : World) : Calls Try.prog 45 #[.agg #[.int .i64 e, .int .i64 b, .int .i64 u], .int .i64 day] w fun en w' => en = .returned (.agg #[.int .i64 xa, .int .i64 xb, .int .i64 xc]) ∧ Below w.heap.size w w' := by
  have h2 := rdate_any e b u day w (solB_iff.1 hs) d0 d1
  rw [h] at h2
  exact h2
set_option maxRecDepth 100000 in
set_option maxHeartbeats 8000000 in
theorem lwsuns_any (e b u day y m d : Int) (w : World) :
    Calls Try.prog 7 #[.agg #[.int .i64 e, .int .i64 b, .int .i64 u], .int .i64 day, .agg #[.int .i64 y, .int .i64 m, .int .i64 d]] w fun en w' => en = .returned (.bool true) ∧ Below w.heap.size w w' := by
  obtain ⟨⟨n, g⟩, hng⟩ : ∃ z, dayR ⟨e, b, u⟩ ⟨y, m, d⟩ = z := ⟨_, rfl⟩
  have HD1 := Lib.hid (fun W => sdayPV hng W)
  have HD2 := Lib.hid (fun W => sdayRV hng W)
  clear hng
  cases hs : solB ⟨e, b, u⟩ with
  | false =>
    have HP := Lib.hid (fun W => solarRV (by simp [solarR, hs] : solarR ⟨e, b, u⟩ day = (⟨0, 0, 0⟩, 2)) W)
    have HSV := Lib.hid (fun W => rsolar_val hs W)
    clear hs
    go_enter Try.func7, Try.ntmps7
    go_upto_region 1 with fail
    refine gen_w (fun W => Blk W w.heap.size #[.int .i64 e, .int .i64 b, .int .i64 u] 24 ∧ Blk W (w.heap.size + 1) #[.int .i64 y, .int .i64 m, .int .i64 d] 75 ∧ Below w.heap.size w W) ⟨(Blk.at_ rfl).alloc _, Blk.at_ (by simp), by (repeat (first | exact Below.refl _ _ | assumption | (refine Below.alloc ?_ (by first | omega | (simp; omega) | (simp; done)) _) | (refine Below.setCell ?_ (by first | omega | (simp; omega) | (simp; done)) _) | (refine Below.drew ?_) | (refine belowN ?_ _) | (refine Below.trans ?_ (Below.mono ‹Below _ _ _› (by first | omega | (simp; omega) | (simp; done))))))⟩ ?_
    rintro V0 ⟨g0, g1, hw⟩
    (have c0 := g0.cell 0; have c1 := g0.cell 1; have c2 := g0.cell 2; simp at c0 c1 c2)
    (have s0 := g1.cell 0; have s1 := g1.cell 1; have s2 := g1.cell 2; simp at s0 s1 s2)
    go_upto_region 2 with (go_at_call 41; (with_reducible refine (HP.out _).mono ?_); rintro _ V1 ⟨rfl, hb1⟩; (have hw := bl2 hw hb1; have g0 := g0.below hb1 g0.lt; have g1 := g1.below hb1 g1.lt; (have c0 := g0.cell 0; have c1 := g0.cell 1; have c2 := g0.cell 2; simp at c0 c1 c2); (have s0 := g1.cell 0; have s1 := g1.cell 1; have s2 := g1.cell 2; simp at s0 s1 s2)))
    obtain ⟨b7, hb7⟩ : ∃ b, b = V1.heap.size := ⟨_, rfl⟩
    rw [← hb7]
    refine gen_w (fun W => Blk W w.heap.size #[.int .i64 e, .int .i64 b, .int .i64 u] 24 ∧ Blk W (w.heap.size + 1) #[.int .i64 y, .int .i64 m, .int .i64 d] 75 ∧ Blk W b7 #[.int .i64 0, .int .i64 0, .int .i64 0] 75 ∧ Below w.heap.size w W) ⟨g0.alloc _, g1.alloc _, Blk.at_ hb7, bla hw⟩ ?_
    clear g0 g1 hw hb7 c0 c1 c2 s0 s1 s2
    rintro V2 ⟨g0, g1, g2, hw⟩
    (have c0 := g0.cell 0; have c1 := g0.cell 1; have c2 := g0.cell 2; simp at c0 c1 c2)
    (have s0 := g1.cell 0; have s1 := g1.cell 1; have s2 := g1.cell 2; simp at s0 s1 s2)
    (have k0 := g2.cell 0; have k1 := g2.cell 1; have k2 := g2.cell 2; simp at k0 k1 k2)
    go_upto_region 4 with (first | (go_at_call 42; (with_reducible refine (HD1.out _).mono ?_); rintro _ V1 ⟨rfl, hb1⟩; (have hw := bl2 hw hb1; have g0 := g0.below hb1 g0.lt; have g1 := g1.below hb1 g1.lt; have g2 := g2.below hb1 g2.lt; (have c0 := g0.cell 0; have c1 := g0.cell 1; have c2 := g0.cell 2; simp at c0 c1 c2); (have s0 := g1.cell 0; have s1 := g1.cell 1; have s2 := g1.cell 2; simp at s0 s1 s2); (have k0 := g2.cell 0; have k1 := g2.cell 1; have k2 := g2.cell 2; simp at k0 k1 k2))) | (go_at_call 43; (with_reducible refine (HD2.out _).mono ?_); rintro _ V1 ⟨rfl, hb1⟩; (have hw := bl2 hw hb1; have g0 := g0.below hb1 g0.lt; have g1 := g1.below hb1 g1.lt; have g2 := g2.below hb1 g2.lt; (have c0 := g0.cell 0; have c1 := g0.cell 1; have c2 := g0.cell 2; simp at c0 c1 c2); (have s0 := g1.cell 0; have s1 := g1.cell 1; have s2 := g1.cell 2; simp at s0 s1 s2); (have k0 := g2.cell 0; have k1 := g2.cell 1; have k2 := g2.cell 2; simp at k0 k1 k2))))
    go_wp2_with (first | (go_at_call 44; (with_reducible refine (HSV.out _).mono ?_); rintro _ V1 ⟨rfl, hb1⟩; (have hw := bl2 hw hb1; have g0 := g0.below hb1 g0.lt; have g1 := g1.below hb1 g1.lt; have g2 := g2.below hb1 g2.lt; (have c0 := g0.cell 0; have c1 := g0.cell 1; have c2 := g0.cell 2; simp at c0 c1 c2); (have s0 := g1.cell 0; have s1 := g1.cell 1; have s2 := g1.cell 2; simp at s0 s1 s2); (have k0 := g2.cell 0; have k1 := g2.cell 1; have k2 := g2.cell 2; simp at k0 k1 k2))) | (go_at_call 17; refine (known_any _).mono ?_; rintro _ V1 ⟨rfl, hb1⟩; have hw := bl2 hw hb1))
    refine bodyPost_ret (v := .bool true) (by simp [results, Try.results7, go_sem]) rfl ?_
    exact ⟨rfl, hw⟩
  | true =>
    have HSV := Lib.hid (fun W => rsolar_val hs W)
    cases hd : inB day 0 1000000 with
    | false =>
      have HP := Lib.hid (fun W => solarRV (by simp [solarR, hs, hd] : solarR ⟨e, b, u⟩ day = (⟨0, 0, 0⟩, 3)) W)
      have HDV := Lib.hid (fun W => rday_val hd W)
      clear hs hd
      go_enter Try.func7, Try.ntmps7
      go_upto_region 1 with fail
      refine gen_w (fun W => Blk W w.heap.size #[.int .i64 e, .int .i64 b, .int .i64 u] 24 ∧ Blk W (w.heap.size + 1) #[.int .i64 y, .int .i64 m, .int .i64 d] 75 ∧ Below w.heap.size w W) ⟨(Blk.at_ rfl).alloc _, Blk.at_ (by simp), by (repeat (first | exact Below.refl _ _ | assumption | (refine Below.alloc ?_ (by first | omega | (simp; omega) | (simp; done)) _) | (refine Below.setCell ?_ (by first | omega | (simp; omega) | (simp; done)) _) | (refine Below.drew ?_) | (refine belowN ?_ _) | (refine Below.trans ?_ (Below.mono ‹Below _ _ _› (by first | omega | (simp; omega) | (simp; done))))))⟩ ?_
      rintro V0 ⟨g0, g1, hw⟩
      (have c0 := g0.cell 0; have c1 := g0.cell 1; have c2 := g0.cell 2; simp at c0 c1 c2)
      (have s0 := g1.cell 0; have s1 := g1.cell 1; have s2 := g1.cell 2; simp at s0 s1 s2)
      go_upto_region 2 with (go_at_call 41; (with_reducible refine (HP.out _).mono ?_); rintro _ V1 ⟨rfl, hb1⟩; (have hw := bl2 hw hb1; have g0 := g0.below hb1 g0.lt; have g1 := g1.below hb1 g1.lt; (have c0 := g0.cell 0; have c1 := g0.cell 1; have c2 := g0.cell 2; simp at c0 c1 c2); (have s0 := g1.cell 0; have s1 := g1.cell 1; have s2 := g1.cell 2; simp at s0 s1 s2)))
      obtain ⟨b7, hb7⟩ : ∃ b, b = V1.heap.size := ⟨_, rfl⟩
      rw [← hb7]
      refine gen_w (fun W => Blk W w.heap.size #[.int .i64 e, .int .i64 b, .int .i64 u] 24 ∧ Blk W (w.heap.size + 1) #[.int .i64 y, .int .i64 m, .int .i64 d] 75 ∧ Blk W b7 #[.int .i64 0, .int .i64 0, .int .i64 0] 75 ∧ Below w.heap.size w W) ⟨g0.alloc _, g1.alloc _, Blk.at_ hb7, bla hw⟩ ?_
      clear g0 g1 hw hb7 c0 c1 c2 s0 s1 s2
      rintro V2 ⟨g0, g1, g2, hw⟩
      (have c0 := g0.cell 0; have c1 := g0.cell 1; have c2 := g0.cell 2; simp at c0 c1 c2)
      (have s0 := g1.cell 0; have s1 := g1.cell 1; have s2 := g1.cell 2; simp at s0 s1 s2)
      (have k0 := g2.cell 0; have k1 := g2.cell 1; have k2 := g2.cell 2; simp at k0 k1 k2)
      go_upto_region 4 with (first | (go_at_call 42; (with_reducible refine (HD1.out _).mono ?_); rintro _ V1 ⟨rfl, hb1⟩; (have hw := bl2 hw hb1; have g0 := g0.below hb1 g0.lt; have g1 := g1.below hb1 g1.lt; have g2 := g2.below hb1 g2.lt; (have c0 := g0.cell 0; have c1 := g0.cell 1; have c2 := g0.cell 2; simp at c0 c1 c2); (have s0 := g1.cell 0; have s1 := g1.cell 1; have s2 := g1.cell 2; simp at s0 s1 s2); (have k0 := g2.cell 0; have k1 := g2.cell 1; have k2 := g2.cell 2; simp at k0 k1 k2))) | (go_at_call 43; (with_reducible refine (HD2.out _).mono ?_); rintro _ V1 ⟨rfl, hb1⟩; (have hw := bl2 hw hb1; have g0 := g0.below hb1 g0.lt; have g1 := g1.below hb1 g1.lt; have g2 := g2.below hb1 g2.lt; (have c0 := g0.cell 0; have c1 := g0.cell 1; have c2 := g0.cell 2; simp at c0 c1 c2); (have s0 := g1.cell 0; have s1 := g1.cell 1; have s2 := g1.cell 2; simp at s0 s1 s2); (have k0 := g2.cell 0; have k1 := g2.cell 1; have k2 := g2.cell 2; simp at k0 k1 k2))))
      go_wp2_with (first | (go_at_call 44; (with_reducible refine (HSV.out _).mono ?_); rintro _ V1 ⟨rfl, hb1⟩; (have hw := bl2 hw hb1; have g0 := g0.below hb1 g0.lt; have g1 := g1.below hb1 g1.lt; have g2 := g2.below hb1 g2.lt; (have c0 := g0.cell 0; have c1 := g0.cell 1; have c2 := g0.cell 2; simp at c0 c1 c2); (have s0 := g1.cell 0; have s1 := g1.cell 1; have s2 := g1.cell 2; simp at s0 s1 s2); (have k0 := g2.cell 0; have k1 := g2.cell 1; have k2 := g2.cell 2; simp at k0 k1 k2))) | (go_at_call 28; (with_reducible refine (HDV.out _).mono ?_); rintro _ _ ⟨rfl, rfl⟩) | (go_at_call 17; refine (known_any _).mono ?_; rintro _ V1 ⟨rfl, hb1⟩; have hw := bl2 hw hb1))
      refine bodyPost_ret (v := .bool true) (by simp [results, Try.results7, go_sem]) rfl ?_
      exact ⟨rfl, hw⟩
    | true =>
      obtain ⟨dd0, dd1⟩ := inB_iff.1 hd
      obtain ⟨⟨xa, xb, xc⟩, hx⟩ : ∃ z, solI ⟨e, b, u⟩ day = z := ⟨_, rfl⟩
      have HP := Lib.hid (fun W => solarRV (by simp [solarR, hs, hd, hx] : solarR ⟨e, b, u⟩ day = (⟨xa, xb, xc⟩, 0)) W)
      have HDV := Lib.hid (fun W => rday_val hd W)
      have HRV := Lib.hid (fun W => sdateRV hs dd0 dd1 hx W)
      have HK := Lib.hid (fun W => known_any W)
      clear hs hd hx
      go_enter Try.func7, Try.ntmps7
      go_upto_region 1 with fail
      refine gen_w (fun W => Blk W w.heap.size #[.int .i64 e, .int .i64 b, .int .i64 u] 24 ∧ Blk W (w.heap.size + 1) #[.int .i64 y, .int .i64 m, .int .i64 d] 75 ∧ Below w.heap.size w W) ⟨(Blk.at_ rfl).alloc _, Blk.at_ (by simp), by (repeat (first | exact Below.refl _ _ | assumption | (refine Below.alloc ?_ (by first | omega | (simp; omega) | (simp; done)) _) | (refine Below.setCell ?_ (by first | omega | (simp; omega) | (simp; done)) _) | (refine Below.drew ?_) | (refine belowN ?_ _) | (refine Below.trans ?_ (Below.mono ‹Below _ _ _› (by first | omega | (simp; omega) | (simp; done))))))⟩ ?_
      rintro V0 ⟨g0, g1, hw⟩
      (have c0 := g0.cell 0; have c1 := g0.cell 1; have c2 := g0.cell 2; simp at c0 c1 c2)
      (have s0 := g1.cell 0; have s1 := g1.cell 1; have s2 := g1.cell 2; simp at s0 s1 s2)
      go_upto_region 2 with (go_at_call 41; (with_reducible refine (HP.out _).mono ?_); rintro _ V1 ⟨rfl, hb1⟩; (have hw := bl2 hw hb1; have g0 := g0.below hb1 g0.lt; have g1 := g1.below hb1 g1.lt; (have c0 := g0.cell 0; have c1 := g0.cell 1; have c2 := g0.cell 2; simp at c0 c1 c2); (have s0 := g1.cell 0; have s1 := g1.cell 1; have s2 := g1.cell 2; simp at s0 s1 s2)))
      obtain ⟨b7, hb7⟩ : ∃ b, b = V1.heap.size := ⟨_, rfl⟩
      rw [← hb7]
      refine gen_w (fun W => Blk W w.heap.size #[.int .i64 e, .int .i64 b, .int .i64 u] 24 ∧ Blk W (w.heap.size + 1) #[.int .i64 y, .int .i64 m, .int .i64 d] 75 ∧ Blk W b7 #[.int .i64 xa, .int .i64 xb, .int .i64 xc] 75 ∧ Below w.heap.size w W) ⟨g0.alloc _, g1.alloc _, Blk.at_ hb7, bla hw⟩ ?_
      clear g0 g1 hw hb7 c0 c1 c2 s0 s1 s2
      rintro V2 ⟨g0, g1, g2, hw⟩
      (have c0 := g0.cell 0; have c1 := g0.cell 1; have c2 := g0.cell 2; simp at c0 c1 c2)
      (have s0 := g1.cell 0; have s1 := g1.cell 1; have s2 := g1.cell 2; simp at s0 s1 s2)
      (have k0 := g2.cell 0; have k1 := g2.cell 1; have k2 := g2.cell 2; simp at k0 k1 k2)
      go_upto_region 4 with (first | (go_at_call 42; (with_reducible refine (HD1.out _).mono ?_); rintro _ V1 ⟨rfl, hb1⟩; (have hw := bl2 hw hb1; have g0 := g0.below hb1 g0.lt; have g1 := g1.below hb1 g1.lt; have g2 := g2.below hb1 g2.lt; (have c0 := g0.cell 0; have c1 := g0.cell 1; have c2 := g0.cell 2; simp at c0 c1 c2); (have s0 := g1.cell 0; have s1 := g1.cell 1; have s2 := g1.cell 2; simp at s0 s1 s2); (have k0 := g2.cell 0; have k1 := g2.cell 1; have k2 := g2.cell 2; simp at k0 k1 k2))) | (go_at_call 43; (with_reducible refine (HD2.out _).mono ?_); rintro _ V1 ⟨rfl, hb1⟩; (have hw := bl2 hw hb1; have g0 := g0.below hb1 g0.lt; have g1 := g1.below hb1 g1.lt; have g2 := g2.below hb1 g2.lt; (have c0 := g0.cell 0; have c1 := g0.cell 1; have c2 := g0.cell 2; simp at c0 c1 c2); (have s0 := g1.cell 0; have s1 := g1.cell 1; have s2 := g1.cell 2; simp at s0 s1 s2); (have k0 := g2.cell 0; have k1 := g2.cell 1; have k2 := g2.cell 2; simp at k0 k1 k2))))
      go_upto_region 10 with (first | (go_at_call 44; (with_reducible refine (HSV.out _).mono ?_); rintro _ V1 ⟨rfl, hb1⟩; (have hw := bl2 hw hb1; have g0 := g0.below hb1 g0.lt; have g1 := g1.below hb1 g1.lt; have g2 := g2.below hb1 g2.lt; (have c0 := g0.cell 0; have c1 := g0.cell 1; have c2 := g0.cell 2; simp at c0 c1 c2); (have s0 := g1.cell 0; have s1 := g1.cell 1; have s2 := g1.cell 2; simp at s0 s1 s2); (have k0 := g2.cell 0; have k1 := g2.cell 1; have k2 := g2.cell 2; simp at k0 k1 k2))) | (go_at_call 28; (with_reducible refine (HDV.out _).mono ?_); rintro _ _ ⟨rfl, rfl⟩))
      (refine wp_region_ext (by kernel_rfl) (by kernel_rfl) ?_; (repeat (go_big_quiet_step((first | (go_at_call 45; with_reducible exact Calls.ext_of (HRV.out _)) | (go_at_call 17; with_reducible exact Calls.ext_of (HK.out _)))))); with_reducible refine wpQuiet_nil ?_; intro w1 hw1; have hb1 := ext_below hw1; clear hw1)
      have hw := bl2 hw hb1
      go_wp2_with fail
      refine bodyPost_ret (v := .bool true) (by simp [results, Try.results7, go_sem]) rfl ?_
      exact ⟨rfl, hw⟩
end Go.Proofs.Ytfbnllmmoaialaa

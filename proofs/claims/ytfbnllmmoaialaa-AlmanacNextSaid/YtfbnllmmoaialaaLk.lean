/- almanac: the law AlmanacNext returns true. -/
import Derived.Test.YtfbnllmmoaialaaZ30LkM
import Derived.Test.YtfbnllmmoaialaaLk1
namespace Go.Proofs.Ytfbnllmmoaialaa
open Go.RowKit

set_option maxRecDepth 100000 in
set_option maxHeartbeats 4000000 in
theorem lwnext_w (x : Alm) (A2 : Option Addr) (c2 : Nat) (rs : List DRl) (fr to_ : Int) (w : World) (hz : x.a = none → x.c = 0) (hcx : Sl Cyc.cells 2 w w.heap.size x.a x.cycles) (hr : RlsW w w.heap.size A2 rs) :
    Calls Try.prog 10 #[.agg x.cells.toArray, .slice A2 rs.length c2, .agg #[.int .i64 fr, .int .i64 to_]] w fun en w' => en = .returned (.bool true) ∧ Below w.heap.size w w' := by
  have HLG := Lib.hid (fun W (hW : Below w.heap.size w W) => large_any x A2 c2 rs W ((hr.below hW).more hW.size))
  cases hlg : largeB x rs with
  | true =>
    rw [hlg] at HLG
    clear hr hcx hz hlg
    obtain ⟨A, c, l, ⟨e, b, u⟩, ⟨d, p, f, m, y, s, k⟩⟩ := x
    simp only [Alm.cells] at *
    go_enter Try.func10, Try.ntmps10
    go_upto_region 1 with fail
    refine gen_w (fun W => Blk W w.heap.size #[.slice A l.length c, .int .i64 e, .int .i64 b, .int .i64 u, .int .i64 d, .int .i64 p, .int .i64 f, .int .i64 m, .int .i64 y, .int .i64 s, .int .i64 k] 28 ∧ Blk W (w.heap.size + 1) #[.int .i64 fr, .int .i64 to_] 36 ∧ Below w.heap.size w W) ⟨(Blk.at_ rfl).alloc _, Blk.at_ (by simp), by (repeat (first | exact Below.refl _ _ | assumption | (refine Below.alloc ?_ (by first | omega | (simp; omega) | (simp; done)) _) | (refine Below.setCell ?_ (by first | omega | (simp; omega) | (simp; done)) _) | (refine Below.drew ?_) | (refine belowN ?_ _) | (refine Below.trans ?_ (Below.mono ‹Below _ _ _› (by first | omega | (simp; omega) | (simp; done))))))⟩ ?_
    rintro V0 ⟨ga, gt, hw⟩
    (have z0 := ga.cell 0; have z1 := ga.cell 1; have z2 := ga.cell 2; have z3 := ga.cell 3; have z4 := ga.cell 4; have z5 := ga.cell 5; have z6 := ga.cell 6; have z7 := ga.cell 7; have z8 := ga.cell 8; have z9 := ga.cell 9; have z10 := ga.cell 10; simp at z0 z1 z2 z3 z4 z5 z6 z7 z8 z9 z10; have u0 := gt.cell 0; have u1 := gt.cell 1; simp at u0 u1)
    go_wp2_with (first | (go_at_call 15; (with_reducible refine (HLG.out _ hw).mono ?_); rintro _ V1 ⟨rfl, hb1⟩; have hw := bl2 hw hb1; have ga := ga.below hb1 ga.lt; have gt := gt.below hb1 gt.lt; (have z0 := ga.cell 0; have z1 := ga.cell 1; have z2 := ga.cell 2; have z3 := ga.cell 3; have z4 := ga.cell 4; have z5 := ga.cell 5; have z6 := ga.cell 6; have z7 := ga.cell 7; have z8 := ga.cell 8; have z9 := ga.cell 9; have z10 := ga.cell 10; simp at z0 z1 z2 z3 z4 z5 z6 z7 z8 z9 z10; have u0 := gt.cell 0; have u1 := gt.cell 1; simp at u0 u1)) | (go_at_call 17; refine (known_any _).mono ?_; rintro _ V1 ⟨rfl, hb1⟩; have hw := bl2 hw hb1))
    refine bodyPost_ret (v := .bool true) (by simp [results, Try.results10, go_sem]) rfl ?_
    exact ⟨rfl, hw⟩
  | false =>
    rw [hlg] at HLG
    by_cases h29 : rs.length ≤ 29
    · have q1 : decide ((29 : Int) < (rs.length : Int)) = false := by simp; omega
      by_cases f0 : 0 ≤ fr
      · have q2 : decide (fr < 0) = false := by simp; omega
        by_cases f1 : to_ ≤ 1000000
        · have q3 : decide (1000000 < to_) = false := by simp; omega
          by_cases f2 : fr ≤ to_
          · have q4 : decide (to_ < fr) = false := by simp; omega
            have q5 : IntKind.i64.wrap (to_ - fr) = to_ - fr := IntWalk.i64_in _ ⟨by omega, by omega⟩
            by_cases f3 : to_ - fr ≤ 100
            · obtain ⟨h1, h2, h3⟩ := not_large hlg
              have hri : RlsIn w A2 rs := ⟨hr.at_ (by omega) (fun r h => by have := h3 r h; omega), fun r h => (hr.rul r h).nil⟩
              by_cases hb : bothE x rs = 0
              · exact lwnext_0 x A2 c2 rs fr to_ w hz hcx hri hlg h29 f0 f1 f2 f3 hb
              · exact lwnext_e x A2 c2 rs fr to_ w hz hcx hri hlg h29 f0 f1 f2 f3 hb
            · have q6 : decide (100 < to_ - fr) = true := by simp; omega
              clear h29 f0 f1 f2 f3
              clear hr hcx hz hlg
              obtain ⟨A, c, l, ⟨e, b, u⟩, ⟨d, p, f, m, y, s, k⟩⟩ := x
              simp only [Alm.cells] at *
              go_enter Try.func10, Try.ntmps10
              go_upto_region 1 with fail
              refine gen_w (fun W => Blk W w.heap.size #[.slice A l.length c, .int .i64 e, .int .i64 b, .int .i64 u, .int .i64 d, .int .i64 p, .int .i64 f, .int .i64 m, .int .i64 y, .int .i64 s, .int .i64 k] 28 ∧ Blk W (w.heap.size + 1) #[.int .i64 fr, .int .i64 to_] 36 ∧ Below w.heap.size w W) ⟨(Blk.at_ rfl).alloc _, Blk.at_ (by simp), by (repeat (first | exact Below.refl _ _ | assumption | (refine Below.alloc ?_ (by first | omega | (simp; omega) | (simp; done)) _) | (refine Below.setCell ?_ (by first | omega | (simp; omega) | (simp; done)) _) | (refine Below.drew ?_) | (refine belowN ?_ _) | (refine Below.trans ?_ (Below.mono ‹Below _ _ _› (by first | omega | (simp; omega) | (simp; done))))))⟩ ?_
              rintro V0 ⟨ga, gt, hw⟩
              (have z0 := ga.cell 0; have z1 := ga.cell 1; have z2 := ga.cell 2; have z3 := ga.cell 3; have z4 := ga.cell 4; have z5 := ga.cell 5; have z6 := ga.cell 6; have z7 := ga.cell 7; have z8 := ga.cell 8; have z9 := ga.cell 9; have z10 := ga.cell 10; simp at z0 z1 z2 z3 z4 z5 z6 z7 z8 z9 z10; have u0 := gt.cell 0; have u1 := gt.cell 1; simp at u0 u1)
              go_wp2_with (first | (go_at_call 15; (with_reducible refine (HLG.out _ hw).mono ?_); rintro _ V1 ⟨rfl, hb1⟩; have hw := bl2 hw hb1; have ga := ga.below hb1 ga.lt; have gt := gt.below hb1 gt.lt; (have z0 := ga.cell 0; have z1 := ga.cell 1; have z2 := ga.cell 2; have z3 := ga.cell 3; have z4 := ga.cell 4; have z5 := ga.cell 5; have z6 := ga.cell 6; have z7 := ga.cell 7; have z8 := ga.cell 8; have z9 := ga.cell 9; have z10 := ga.cell 10; simp at z0 z1 z2 z3 z4 z5 z6 z7 z8 z9 z10; have u0 := gt.cell 0; have u1 := gt.cell 1; simp at u0 u1)) | (go_at_call 17; refine (known_any _).mono ?_; rintro _ V1 ⟨rfl, hb1⟩; have hw := bl2 hw hb1))
              refine bodyPost_ret (v := .bool true) (by simp [results, Try.results10, go_sem]) rfl ?_
              exact ⟨rfl, hw⟩
          · have q4 : decide (to_ < fr) = true := by simp; omega
            clear h29 f0 f1 f2
            clear hr hcx hz hlg
            obtain ⟨A, c, l, ⟨e, b, u⟩, ⟨d, p, f, m, y, s, k⟩⟩ := x
            simp only [Alm.cells] at *
            go_enter Try.func10, Try.ntmps10
            go_upto_region 1 with fail
            refine gen_w (fun W => Blk W w.heap.size #[.slice A l.length c, .int .i64 e, .int .i64 b, .int .i64 u, .int .i64 d, .int .i64 p, .int .i64 f, .int .i64 m, .int .i64 y, .int .i64 s, .int .i64 k] 28 ∧ Blk W (w.heap.size + 1) #[.int .i64 fr, .int .i64 to_] 36 ∧ Below w.heap.size w W) ⟨(Blk.at_ rfl).alloc _, Blk.at_ (by simp), by (repeat (first | exact Below.refl _ _ | assumption | (refine Below.alloc ?_ (by first | omega | (simp; omega) | (simp; done)) _) | (refine Below.setCell ?_ (by first | omega | (simp; omega) | (simp; done)) _) | (refine Below.drew ?_) | (refine belowN ?_ _) | (refine Below.trans ?_ (Below.mono ‹Below _ _ _› (by first | omega | (simp; omega) | (simp; done))))))⟩ ?_
            rintro V0 ⟨ga, gt, hw⟩
            (have z0 := ga.cell 0; have z1 := ga.cell 1; have z2 := ga.cell 2; have z3 := ga.cell 3; have z4 := ga.cell 4; have z5 := ga.cell 5; have z6 := ga.cell 6; have z7 := ga.cell 7; have z8 := ga.cell 8; have z9 := ga.cell 9; have z10 := ga.cell 10; simp at z0 z1 z2 z3 z4 z5 z6 z7 z8 z9 z10; have u0 := gt.cell 0; have u1 := gt.cell 1; simp at u0 u1)
            go_wp2_with (first | (go_at_call 15; (with_reducible refine (HLG.out _ hw).mono ?_); rintro _ V1 ⟨rfl, hb1⟩; have hw := bl2 hw hb1; have ga := ga.below hb1 ga.lt; have gt := gt.below hb1 gt.lt; (have z0 := ga.cell 0; have z1 := ga.cell 1; have z2 := ga.cell 2; have z3 := ga.cell 3; have z4 := ga.cell 4; have z5 := ga.cell 5; have z6 := ga.cell 6; have z7 := ga.cell 7; have z8 := ga.cell 8; have z9 := ga.cell 9; have z10 := ga.cell 10; simp at z0 z1 z2 z3 z4 z5 z6 z7 z8 z9 z10; have u0 := gt.cell 0; have u1 := gt.cell 1; simp at u0 u1)) | (go_at_call 17; refine (known_any _).mono ?_; rintro _ V1 ⟨rfl, hb1⟩; have hw := bl2 hw hb1))
            refine bodyPost_ret (v := .bool true) (by simp [results, Try.results10, go_sem]) rfl ?_
            exact ⟨rfl, hw⟩
        · have q3 : decide (1000000 < to_) = true := by simp; omega
          clear h29 f0 f1
          clear hr hcx hz hlg
          obtain ⟨A, c, l, ⟨e, b, u⟩, ⟨d, p, f, m, y, s, k⟩⟩ := x
          simp only [Alm.cells] at *
          go_enter Try.func10, Try.ntmps10
          go_upto_region 1 with fail
          refine gen_w (fun W => Blk W w.heap.size #[.slice A l.length c, .int .i64 e, .int .i64 b, .int .i64 u, .int .i64 d, .int .i64 p, .int .i64 f, .int .i64 m, .int .i64 y, .int .i64 s, .int .i64 k] 28 ∧ Blk W (w.heap.size + 1) #[.int .i64 fr, .int .i64 to_] 36 ∧ Below w.heap.size w W) ⟨(Blk.at_ rfl).alloc _, Blk.at_ (by simp), by (repeat (first | exact Below.refl _ _ | assumption | (refine Below.alloc ?_ (by first | omega | (simp; omega) | (simp; done)) _) | (refine Below.setCell ?_ (by first | omega | (simp; omega) | (simp; done)) _) | (refine Below.drew ?_) | (refine belowN ?_ _) | (refine Below.trans ?_ (Below.mono ‹Below _ _ _› (by first | omega | (simp; omega) | (simp; done))))))⟩ ?_
          rintro V0 ⟨ga, gt, hw⟩
          (have z0 := ga.cell 0; have z1 := ga.cell 1; have z2 := ga.cell 2; have z3 := ga.cell 3; have z4 := ga.cell 4; have z5 := ga.cell 5; have z6 := ga.cell 6; have z7 := ga.cell 7; have z8 := ga.cell 8; have z9 := ga.cell 9; have z10 := ga.cell 10; simp at z0 z1 z2 z3 z4 z5 z6 z7 z8 z9 z10; have u0 := gt.cell 0; have u1 := gt.cell 1; simp at u0 u1)
          go_wp2_with (first | (go_at_call 15; (with_reducible refine (HLG.out _ hw).mono ?_); rintro _ V1 ⟨rfl, hb1⟩; have hw := bl2 hw hb1; have ga := ga.below hb1 ga.lt; have gt := gt.below hb1 gt.lt; (have z0 := ga.cell 0; have z1 := ga.cell 1; have z2 := ga.cell 2; have z3 := ga.cell 3; have z4 := ga.cell 4; have z5 := ga.cell 5; have z6 := ga.cell 6; have z7 := ga.cell 7; have z8 := ga.cell 8; have z9 := ga.cell 9; have z10 := ga.cell 10; simp at z0 z1 z2 z3 z4 z5 z6 z7 z8 z9 z10; have u0 := gt.cell 0; have u1 := gt.cell 1; simp at u0 u1)) | (go_at_call 17; refine (known_any _).mono ?_; rintro _ V1 ⟨rfl, hb1⟩; have hw := bl2 hw hb1))
          refine bodyPost_ret (v := .bool true) (by simp [results, Try.results10, go_sem]) rfl ?_
          exact ⟨rfl, hw⟩
      · have q2 : decide (fr < 0) = true := by simp; omega
        clear h29 f0
        clear hr hcx hz hlg
        obtain ⟨A, c, l, ⟨e, b, u⟩, ⟨d, p, f, m, y, s, k⟩⟩ := x
        simp only [Alm.cells] at *
        go_enter Try.func10, Try.ntmps10
        go_upto_region 1 with fail
        refine gen_w (fun W => Blk W w.heap.size #[.slice A l.length c, .int .i64 e, .int .i64 b, .int .i64 u, .int .i64 d, .int .i64 p, .int .i64 f, .int .i64 m, .int .i64 y, .int .i64 s, .int .i64 k] 28 ∧ Blk W (w.heap.size + 1) #[.int .i64 fr, .int .i64 to_] 36 ∧ Below w.heap.size w W) ⟨(Blk.at_ rfl).alloc _, Blk.at_ (by simp), by (repeat (first | exact Below.refl _ _ | assumption | (refine Below.alloc ?_ (by first | omega | (simp; omega) | (simp; done)) _) | (refine Below.setCell ?_ (by first | omega | (simp; omega) | (simp; done)) _) | (refine Below.drew ?_) | (refine belowN ?_ _) | (refine Below.trans ?_ (Below.mono ‹Below _ _ _› (by first | omega | (simp; omega) | (simp; done))))))⟩ ?_
        rintro V0 ⟨ga, gt, hw⟩
        (have z0 := ga.cell 0; have z1 := ga.cell 1; have z2 := ga.cell 2; have z3 := ga.cell 3; have z4 := ga.cell 4; have z5 := ga.cell 5; have z6 := ga.cell 6; have z7 := ga.cell 7; have z8 := ga.cell 8; have z9 := ga.cell 9; have z10 := ga.cell 10; simp at z0 z1 z2 z3 z4 z5 z6 z7 z8 z9 z10; have u0 := gt.cell 0; have u1 := gt.cell 1; simp at u0 u1)
        go_wp2_with (first | (go_at_call 15; (with_reducible refine (HLG.out _ hw).mono ?_); rintro _ V1 ⟨rfl, hb1⟩; have hw := bl2 hw hb1; have ga := ga.below hb1 ga.lt; have gt := gt.below hb1 gt.lt; (have z0 := ga.cell 0; have z1 := ga.cell 1; have z2 := ga.cell 2; have z3 := ga.cell 3; have z4 := ga.cell 4; have z5 := ga.cell 5; have z6 := ga.cell 6; have z7 := ga.cell 7; have z8 := ga.cell 8; have z9 := ga.cell 9; have z10 := ga.cell 10; simp at z0 z1 z2 z3 z4 z5 z6 z7 z8 z9 z10; have u0 := gt.cell 0; have u1 := gt.cell 1; simp at u0 u1)) | (go_at_call 17; refine (known_any _).mono ?_; rintro _ V1 ⟨rfl, hb1⟩; have hw := bl2 hw hb1))
        refine bodyPost_ret (v := .bool true) (by simp [results, Try.results10, go_sem]) rfl ?_
        exact ⟨rfl, hw⟩
    · have q1 : decide ((29 : Int) < (rs.length : Int)) = true := by simp; omega
      clear h29
      clear hr hcx hz hlg
      obtain ⟨A, c, l, ⟨e, b, u⟩, ⟨d, p, f, m, y, s, k⟩⟩ := x
      simp only [Alm.cells] at *
      go_enter Try.func10, Try.ntmps10
      go_upto_region 1 with fail
      refine gen_w (fun W => Blk W w.heap.size #[.slice A l.length c, .int .i64 e, .int .i64 b, .int .i64 u, .int .i64 d, .int .i64 p, .int .i64 f, .int .i64 m, .int .i64 y, .int .i64 s, .int .i64 k] 28 ∧ Blk W (w.heap.size + 1) #[.int .i64 fr, .int .i64 to_] 36 ∧ Below w.heap.size w W) ⟨(Blk.at_ rfl).alloc _, Blk.at_ (by simp), by (repeat (first | exact Below.refl _ _ | assumption | (refine Below.alloc ?_ (by first | omega | (simp; omega) | (simp; done)) _) | (refine Below.setCell ?_ (by first | omega | (simp; omega) | (simp; done)) _) | (refine Below.drew ?_) | (refine belowN ?_ _) | (refine Below.trans ?_ (Below.mono ‹Below _ _ _› (by first | omega | (simp; omega) | (simp; done))))))⟩ ?_
      rintro V0 ⟨ga, gt, hw⟩
      (have z0 := ga.cell 0; have z1 := ga.cell 1; have z2 := ga.cell 2; have z3 := ga.cell 3; have z4 := ga.cell 4; have z5 := ga.cell 5; have z6 := ga.cell 6; have z7 := ga.cell 7; have z8 := ga.cell 8; have z9 := ga.cell 9; have z10 := ga.cell 10; simp at z0 z1 z2 z3 z4 z5 z6 z7 z8 z9 z10; have u0 := gt.cell 0; have u1 := gt.cell 1; simp at u0 u1)
      go_wp2_with (first | (go_at_call 15; (with_reducible refine (HLG.out _ hw).mono ?_); rintro _ V1 ⟨rfl, hb1⟩; have hw := bl2 hw hb1; have ga := ga.below hb1 ga.lt; have gt := gt.below hb1 gt.lt; (have z0 := ga.cell 0; have z1 := ga.cell 1; have z2 := ga.cell 2; have z3 := ga.cell 3; have z4 := ga.cell 4; have z5 := ga.cell 5; have z6 := ga.cell 6; have z7 := ga.cell 7; have z8 := ga.cell 8; have z9 := ga.cell 9; have z10 := ga.cell 10; simp at z0 z1 z2 z3 z4 z5 z6 z7 z8 z9 z10; have u0 := gt.cell 0; have u1 := gt.cell 1; simp at u0 u1)) | (go_at_call 17; refine (known_any _).mono ?_; rintro _ V1 ⟨rfl, hb1⟩; have hw := bl2 hw hb1))
      refine bodyPost_ret (v := .bool true) (by simp [results, Try.results10, go_sem]) rfl ?_
      exact ⟨rfl, hw⟩
end Go.Proofs.Ytfbnllmmoaialaa

/- odds: Both for any two chances. -/
import Derived.Test.YtmfbiohdmhbkoaaHf
import Derived.Test.YtmfbiohdmhbkoaaPz
namespace Go.Proofs.Ytmfbiohdmhbkoaa
open Go.RowKit

set_option maxRecDepth 100000 in
set_option maxHeartbeats 4000000 in
theorem both_any (a b : Ch) (w : World) : Calls Try.prog 42 #[.agg #[.int .i64 a.n, .int .i64 a.d], .agg #[.int .i64 b.n, .int .i64 b.d]] w (RetC (bothR a b) w) := by
  have HI := Lib.hid (isCh2of_any a b)
  by_cases ok : okP a b = true
  · obtain ⟨O1, O2⟩ := okP_iff.1 ok
    obtain ⟨x0, xy, xd1, yd1, xd2, yd2, xn0, yn0, xn1, yn1⟩ := both_bd O1 O2
    have o1 := O1.d1; have o2 := O1.d2; have o3 := O1.n0; have o4 := O1.n1
    have o5 := O2.d1; have o6 := O2.d2; have o7 := O2.n0; have o8 := O2.n1
    rw [ok] at HI
    have hd0 : 0 ≤ ratD a.n b.d * ratD b.n a.d := Int.mul_nonneg (by omega) (by omega)
    refine both_main a.n a.d b.n b.d (ratN a.n b.d) (ratD a.n b.d) (ratN b.n a.d) (ratD b.n a.d) (smallB (ratD a.n b.d) (ratD b.n a.d)) (bothR a b) w HI
      (Lib.hid fun w => ratio_any a.n b.d w o3 (by omega) (by omega) (by omega)) (Lib.hid fun w => ratio_any b.n a.d w o7 (by omega) (by omega) (by omega))
      (Lib.hid fun w => small_any _ _ w (by omega) (by omega) (by omega) (by omega)) ?_ ?_
    · refine Lib.hid ?_
      unfold bothR
      rw [if_pos ok]
      by_cases hs : ratD a.n b.d * ratD b.n a.d ≤ 1000000000000000
      · rw [if_pos hs, smallB_true hs]; rfl
      · rw [if_neg hs, smallB_false hs]; rfl
    · intro hs
      have h : ratD a.n b.d * ratD b.n a.d ≤ 1000000000000000 := by
        apply Classical.byContradiction
        intro hn
        rw [smallB_false hn] at hs; cases hs
      exact ⟨x0, by omega, hd0, h⟩
  · have ok' : okP a b = false := by simpa using ok
    have HT : Hid (bothR a b = (0, 0, 2)) := (by unfold bothR; rw [if_neg ok] : bothR a b = _)
    rw [ok'] at HI
    clear ok ok'
    go_enter Try.func42, Try.ntmps42
    go_wp2_with (go_at_call 78; refine (HI.out _ _ (by first | omega | (simp; omega) | (simp; done))).mono ?_; rintro _ w1 ⟨rfl, hb1⟩; have g1 : Blk w1 (w.heap.size + 1 + 1) #[.int .i64 0, .int .i64 0] 51 := (Blk.at_ (by simp)).below hb1 (by first | omega | (simp; omega) | (simp; done)); have hz := g1.lt; have f0 := g1.free 0; have f1 := g1.free 1; have e0 := g1.cell 0; have e1 := g1.cell 1; simp at e0 e1)
    refine gen_w (fun W => Blk W (w.heap.size + 1 + 1) #[.int .i64 0, .int .i64 0] 51 ∧ Below w.heap.size w W) ⟨(g1.set2 _ _), by (repeat (first | exact Below.refl _ _ | assumption | (refine Below.alloc ?_ (by first | omega | (simp; omega) | (simp; done)) _) | (refine Below.setCell ?_ (by first | omega | (simp; omega) | (simp; done)) _) | (refine Below.drew ?_) | (refine belowN ?_ _) | (refine Below.trans ?_ (Below.mono ‹Below _ _ _› (by first | omega | (simp; omega) | (simp; done))))))⟩ ?_
    rintro W ⟨gW, hW⟩
    have q0 := gW.cell 0; have q1 := gW.cell 1
    simp at q0 q1
    exact bodyPost_ret (v := .tuple #[.agg #[.int .i64 0, .int .i64 0], .int .i64 2]) (by simp [results, Try.results42, go_sem, q0, q1]) rfl ⟨by rw [HT.out], hW⟩
end Go.Proofs.Ytmfbiohdmhbkoaa

/- odds: Not, Compare, Both. -/
import Derived.Test.YtmfbiohdmhbkoaaGw
import Derived.Deep.DeepCutAuto
namespace Go.Proofs.Ytmfbiohdmhbkoaa
open Go.RowKit

set_option maxRecDepth 100000 in
set_option maxHeartbeats 1000000 in
theorem not_any (a : Ch) (w : World) : Calls Try.prog 43 #[.agg #[.int .i64 a.n, .int .i64 a.d]] w (RetC (notR a) w) := by
  have HI := Lib.hid (isCh1of_any a)
  by_cases ok : okC a = true
  · have HT : Hid (notR a = (a.d - a.n, a.d, 0)) := (by unfold notR; rw [if_pos ok] : notR a = _)
    have O := okC_iff.1 ok
    have o1 := O.d1; have o2 := O.d2; have o3 := O.n0; have o4 := O.n1
    rw [ok] at HI
    clear ok O
    obtain ⟨n, hn⟩ : ∃ n, n = a.n := ⟨_, rfl⟩
    obtain ⟨d, hd⟩ : ∃ n, n = a.d := ⟨_, rfl⟩
    rw [← hn, ← hd] at HI HT ⊢
    rw [← hd] at o1 o2 o4
    rw [← hn] at o3 o4
    clear hn hd
    go_enter Try.func43, Try.ntmps43
    go_wp2_with (go_at_call 78; refine (HI.out _ _ (by first | omega | (simp; omega) | (simp; done))).mono ?_; rintro _ w1 ⟨rfl, hb1⟩; have g0 : Blk w1 w.heap.size #[.int .i64 n, .int .i64 d] 51 := ((Blk.at_ rfl).alloc _).below hb1 (by first | omega | (simp; omega) | (simp; done)); have g1 : Blk w1 (w.heap.size + 1) #[.int .i64 0, .int .i64 0] 51 := (Blk.at_ (by simp)).below hb1 (by first | omega | (simp; omega) | (simp; done)); have hz := g1.lt; have c0 := g0.cell 0; have c1 := g0.cell 1; have f0 := g1.free 0; have f1 := g1.free 1; have e0 := g1.cell 0; have e1 := g1.cell 1; simp at c0 c1 e0 e1)
    refine gen_w (fun W => Blk W (w.heap.size + 1) #[.int .i64 (d - n), .int .i64 d] 51 ∧ Below w.heap.size w W) ⟨(by have := (g1.set 0 (.int .i64 (d - n))).set 1 (.int .i64 d); simp at this; exact this), by (repeat (first | exact Below.refl _ _ | assumption | (refine Below.alloc ?_ (by first | omega | (simp; omega) | (simp; done)) _) | (refine Below.setCell ?_ (by first | omega | (simp; omega) | (simp; done)) _) | (refine Below.drew ?_) | (refine belowN ?_ _) | (refine Below.trans ?_ (Below.mono ‹Below _ _ _› (by first | omega | (simp; omega) | (simp; done))))))⟩ ?_
    rintro W ⟨gW, hW⟩
    have q0 := gW.cell 0; have q1 := gW.cell 1
    simp at q0 q1
    exact bodyPost_ret (v := .tuple #[.agg #[.int .i64 (d - n), .int .i64 d], .int .i64 0]) (by simp [results, Try.results43, go_sem, q0, q1]) rfl ⟨by rw [HT.out], hW⟩
  · have ok' : okC a = false := by simpa using ok
    have HT : Hid (notR a = (0, 0, 2)) := (by unfold notR; rw [if_neg ok] : notR a = _)
    rw [ok'] at HI
    clear ok ok'
    go_enter Try.func43, Try.ntmps43
    go_wp2_with (go_at_call 78; refine (HI.out _ _ (by first | omega | (simp; omega) | (simp; done))).mono ?_; rintro _ w1 ⟨rfl, hb1⟩; have g1 : Blk w1 (w.heap.size + 1) #[.int .i64 0, .int .i64 0] 51 := (Blk.at_ (by simp)).below hb1 (by first | omega | (simp; omega) | (simp; done)); have hz := g1.lt; have f0 := g1.free 0; have f1 := g1.free 1; have e0 := g1.cell 0; have e1 := g1.cell 1; simp at e0 e1)
    refine gen_w (fun W => Blk W (w.heap.size + 1) #[.int .i64 0, .int .i64 0] 51 ∧ Below w.heap.size w W) ⟨(by have := (g1.set 0 (.int .i64 0)).set 1 (.int .i64 0); simp at this; exact this), by (repeat (first | exact Below.refl _ _ | assumption | (refine Below.alloc ?_ (by first | omega | (simp; omega) | (simp; done)) _) | (refine Below.setCell ?_ (by first | omega | (simp; omega) | (simp; done)) _) | (refine Below.drew ?_) | (refine belowN ?_ _) | (refine Below.trans ?_ (Below.mono ‹Below _ _ _› (by first | omega | (simp; omega) | (simp; done))))))⟩ ?_
    rintro W ⟨gW, hW⟩
    have q0 := gW.cell 0; have q1 := gW.cell 1
    simp at q0 q1
    exact bodyPost_ret (v := .tuple #[.agg #[.int .i64 0, .int .i64 0], .int .i64 2]) (by simp [results, Try.results43, go_sem, q0, q1]) rfl ⟨by rw [HT.out], hW⟩
/-- a number and an error are returned -/
def RetI2 (x : Int × Int) (w : World) (e : Ending) (w' : World) : Prop := e = .returned (.tuple #[.int .i64 x.1, .int .i64 x.2]) ∧ Below w.heap.size w w'
set_option maxRecDepth 100000 in
set_option maxHeartbeats 2000000 in
theorem compare_any (a b : Ch) (w : World) : Calls Try.prog 41 #[.agg #[.int .i64 a.n, .int .i64 a.d], .agg #[.int .i64 b.n, .int .i64 b.d]] w (RetI2 (cmpR a b) w) := by
  have HI := Lib.hid (isCh2of_any a b)
  by_cases ok : okP a b = true
  · have HT : Hid (cmpR a b = (cmpI (a.n * b.d) (b.n * a.d), 0)) := (by unfold cmpR; rw [if_pos ok] : cmpR a b = _)
    obtain ⟨O1, O2⟩ := okP_iff.1 ok
    have o1 := O1.d1; have o2 := O1.d2; have o3 := O1.n0; have o4 := O1.n1
    have o5 := O2.d1; have o6 := O2.d2; have o7 := O2.n0; have o8 := O2.n1
    rw [ok] at HI
    have HT1 := Lib.hid (fun w => times_any a.n b.d w (by omega) (by omega) (by omega) (by omega))
    have HT2 := Lib.hid (fun w => times_any b.n a.d w (by omega) (by omega) (by omega) (by omega))
    have HWC := Lib.hid (fun w => wcompare_any (a.n * b.d) (b.n * a.d) w)
    clear ok O1 O2
    obtain ⟨n, hn⟩ : ∃ n, n = a.n := ⟨_, rfl⟩
    obtain ⟨d, hd⟩ : ∃ n, n = a.d := ⟨_, rfl⟩
    obtain ⟨p, hp⟩ : ∃ n, n = b.n := ⟨_, rfl⟩
    obtain ⟨q, hq⟩ : ∃ n, n = b.d := ⟨_, rfl⟩
    obtain ⟨x, hx⟩ : ∃ n, n = a.n * b.d := ⟨_, rfl⟩
    obtain ⟨y, hy⟩ : ∃ n, n = b.n * a.d := ⟨_, rfl⟩
    rw [← hx, ← hy] at HWC HT
    rw [← hx] at HT1
    rw [← hy] at HT2
    rw [← hn, ← hd, ← hp, ← hq] at HI ⊢
    rw [← hn, ← hq] at HT1
    rw [← hp, ← hd] at HT2
    rw [← hn] at o3 o4
    rw [← hd] at o1 o2 o4
    rw [← hp] at o7 o8
    rw [← hq] at o5 o6 o8
    clear hn hd hp hq hx hy
    go_enter Try.func41, Try.ntmps41
    go_wp2_with (go_at_call 78; refine (HI.out _ _ (by first | omega | (simp; omega) | (simp; done))).mono ?_; rintro _ w1 ⟨rfl, hb1⟩; have g0 : Blk w1 w.heap.size #[.int .i64 n, .int .i64 d] 51 := ((Blk.at_ rfl).alloc _).below hb1 (by first | omega | (simp; omega) | (simp; done)); have g1 : Blk w1 (w.heap.size + 1) #[.int .i64 p, .int .i64 q] 51 := (Blk.at_ (by simp)).below hb1 (by first | omega | (simp; omega) | (simp; done)); have hz := g1.lt; have c0 := g0.cell 0; have c1 := g0.cell 1; have c2 := g1.cell 0; have c3 := g1.cell 1; have hw1 : Below w.heap.size w w1 := (by (repeat (first | exact Below.refl _ _ | assumption | (refine Below.alloc ?_ (by first | omega | (simp; omega) | (simp; done)) _) | (refine Below.setCell ?_ (by first | omega | (simp; omega) | (simp; done)) _) | (refine Below.drew ?_) | (refine belowN ?_ _) | (refine Below.trans ?_ (Below.mono ‹Below _ _ _› (by first | omega | (simp; omega) | (simp; done))))))); simp at c0 c1 c2 c3)
    have g0b := g0; have g1b := g1
    go_region_held (fun W' => W'.cell? ⟨w.heap.size, 0, none⟩ = some (.int .i64 n) ∧ W'.cell? ⟨w.heap.size, 1, none⟩ = some (.int .i64 d) ∧ W'.cell? ⟨w.heap.size + 1, 0, none⟩ = some (.int .i64 p) ∧ W'.cell? ⟨w.heap.size + 1, 1, none⟩ = some (.int .i64 q)) (exact ⟨c0, c1, c2, c3⟩)
      (first | (go_at_call 80; have _ := hx3; (with_reducible refine (HWC.out _).mono ?_); rintro _ w4 ⟨rfl, hb4⟩; have hx4 : Below w1.heap.size w1 w4 := bl2 hx3 (Below.trans (by (repeat (first | exact Below.refl _ _ | assumption | (refine Below.alloc ?_ (by first | omega | (simp; omega) | (simp; done)) _) | (refine Below.setCell ?_ (by first | omega | (simp; omega) | (simp; done)) _) | (refine Below.drew ?_) | (refine belowN ?_ _) | (refine Below.trans ?_ (Below.mono ‹Below _ _ _› (by first | omega | (simp; omega) | (simp; done))))))) (hb4.mono (by simp))); have g0 := g0b.below hx4 g0b.lt; have g1 := g1b.below hx4 g1b.lt; have hz := g1.lt; have c0 := g0.cell 0; have c1 := g0.cell 1; have c2 := g1.cell 0; have c3 := g1.cell 1; simp at c0 c1 c2 c3) |
        (go_at_call 79; have _ := hx2; (with_reducible refine (HT2.out _).mono ?_); rintro _ w3 ⟨rfl, hb3⟩; have hx3 : Below w1.heap.size w1 w3 := bl2 hx2 (Below.trans (by (repeat (first | exact Below.refl _ _ | assumption | (refine Below.alloc ?_ (by first | omega | (simp; omega) | (simp; done)) _) | (refine Below.setCell ?_ (by first | omega | (simp; omega) | (simp; done)) _) | (refine Below.drew ?_) | (refine belowN ?_ _) | (refine Below.trans ?_ (Below.mono ‹Below _ _ _› (by first | omega | (simp; omega) | (simp; done))))))) (hb3.mono (by simp))); have g0 := g0b.below hx3 g0b.lt; have g1 := g1b.below hx3 g1b.lt; have hz := g1.lt; have c0 := g0.cell 0; have c1 := g0.cell 1; have c2 := g1.cell 0; have c3 := g1.cell 1; simp at c0 c1 c2 c3) |
        (go_at_call 79; (with_reducible refine (HT1.out _).mono ?_); rintro _ w2 ⟨rfl, hb2⟩; have hx2 : Below w1.heap.size w1 w2 := Below.trans (by (repeat (first | exact Below.refl _ _ | assumption | (refine Below.alloc ?_ (by first | omega | (simp; omega) | (simp; done)) _) | (refine Below.setCell ?_ (by first | omega | (simp; omega) | (simp; done)) _) | (refine Below.drew ?_) | (refine belowN ?_ _) | (refine Below.trans ?_ (Below.mono ‹Below _ _ _› (by first | omega | (simp; omega) | (simp; done))))))) (hb2.mono (by simp)); have g0 := g0b.below hx2 g0b.lt; have g1 := g1b.below hx2 g1b.lt; have hz := g1.lt; have c0 := g0.cell 0; have c1 := g0.cell 1; have c2 := g1.cell 0; have c3 := g1.cell 1; simp at c0 c1 c2 c3))
    all_goals (
      go_wp2
      go_ret2
      exact ⟨by rw [HT.out]; rfl, bl2 hw1 hx4⟩)
  · have ok' : okP a b = false := by simpa using ok
    have HT : Hid (cmpR a b = (0, 2)) := (by unfold cmpR; rw [if_neg ok] : cmpR a b = _)
    rw [ok'] at HI
    clear ok ok'
    go_enter Try.func41, Try.ntmps41
    go_wp2_with (go_at_call 78; refine (HI.out _ _ (by first | omega | (simp; omega) | (simp; done))).mono ?_; rintro _ w1 ⟨rfl, hb1⟩)
    go_ret2
    exact ⟨by rw [HT.out]; rfl, by (repeat (first | exact Below.refl _ _ | assumption | (refine Below.alloc ?_ (by first | omega | (simp; omega) | (simp; done)) _) | (refine Below.setCell ?_ (by first | omega | (simp; omega) | (simp; done)) _) | (refine Below.drew ?_) | (refine belowN ?_ _) | (refine Below.trans ?_ (Below.mono ‹Below _ _ _› (by first | omega | (simp; omega) | (simp; done))))))⟩
end Go.Proofs.Ytmfbiohdmhbkoaa

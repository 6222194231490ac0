/- odds: the law's helper known returns true. -/
import Derived.Test.YtmfbiohdmhbkoaaHd
namespace Go.Proofs.Ytmfbiohdmhbkoaa
open Go.RowKit

set_option maxRecDepth 100000 in
set_option maxHeartbeats 8000000 in
theorem known_any (w : World) : Calls Try.prog 16 #[] w fun e w' => e = .returned (.bool true) ∧ Below w.heap.size w w' := by
  go_enter Try.func16, Try.ntmps16
  go_wp2_with (go_at_call 34; refine (k_of _ w.heap.size (w.heap.size + 1) ((Blk.new w _ _).alloc _) (Blk.at_ (by first | omega | (simp; omega) | (simp; done)))).mono ?_; rintro _ W1 ⟨rfl, hb1⟩; refine Hid.out ?_)
  have hw1 : Below w.heap.size w W1 := bl3 (bla (Below.refl _ _)) hb1
  clear hb1
  refine Lib.hid ?_
  go_wp2_with (go_at_call 17; refine (k_rep _ _ (Blk.at_ (by simp))).mono ?_; rintro _ W2 ⟨A2, c2, rfl, hs2, -, hb2⟩; refine Hid.out ?_)
  have hw2 : Below w.heap.size w W2 := bl3 (bla hw1) hb2
  have g1 := ((Blk.new W1 #[.int .i64 1, .int .i64 2] 51).alloc (.cells #[.int .i64 1, .int .i64 1] 3)).below hb2 (by simp; omega)
  have HS2 := Lib.hid hs2
  clear hb2 hs2
  refine Lib.hid ?_
  go_wp2_with (go_at_call 21; refine (k_mix _ W2.heap.size (W2.heap.size + 1) (W2.heap.size + 1 + 1) (W2.heap.size + 1 + 1 + 1) ((((Blk.new W2 _ _).alloc _).alloc _).alloc _) (((Blk.at_ (by first | omega | (simp; omega) | (simp; done))).alloc _).alloc _) ((Blk.at_ (by first | omega | (simp; omega) | (simp; done))).alloc _) (Blk.at_ (by first | omega | (simp; omega) | (simp; done)))).mono ?_; rintro _ W3 ⟨A3, c3, rfl, hs3, -, hb3⟩; refine Hid.out ?_)
  have hx3 : Below W2.heap.size W2 W3 := bl3 (bla (bla (bla (Below.refl _ _)))) hb3
  have HS3 := Lib.hid hs3
  clear hb3 hs3
  refine Lib.hid ?_
  go_wp2_with (go_at_call 52; refine (k_ap _ W3.heap.size (W3.heap.size + 1) ((Blk.new W3 _ _).alloc _) (Blk.at_ (by first | omega | (simp; omega) | (simp; done)))).mono ?_; rintro _ W4 ⟨rfl, hb4⟩; refine Hid.out ?_)
  have hx4 : Below W3.heap.size W3 W4 := bl3 (bla (Below.refl _ _)) hb4
  have hx4' : Below W2.heap.size W2 W4 := bl2 hx3 hx4
  clear hb4
  have h1 := (g1.below hx4' g1.lt).alloc (.cells #[.int .i64 1, .int .i64 4] 51)
  have h4 := Blk.new W4 #[.int .i64 1, .int .i64 4] 51
  have c0 := h1.cell 0; have c1 := h1.cell 1
  simp at c0 c1
  refine Lib.hid ?_
  go_wp2_with (go_at_call 20; refine (k_eq4 _ A2 c2 (W4.heap.size + 1) ((HS2.out.below (bla (bla hx4'))).more (by have := hx4'.size; simp; omega)) (Blk.at_ (by simp))).mono ?_; rintro _ W5 ⟨rfl, hb5⟩; refine Hid.out ?_)
  have hx5 : Below W2.heap.size W2 W5 := bl3 (bla hx4') hb5
  have hy5 : Below W3.heap.size W3 W5 := bl3 (bla hx4) hb5
  have h1 := (h1.alloc (.cells #[.int .i64 1, .int .i64 3, .int .i64 3, .int .i64 1] 3)).below hb5 (by have := g1.lt; have := hx4'.size; simp; omega)
  have h4 := (h4.alloc (.cells #[.int .i64 1, .int .i64 3, .int .i64 3, .int .i64 1] 3)).below hb5 (by simp; omega)
  clear hb5
  have l4 : W4.heap.size < W5.heap.size := h4.lt
  have l1 : W1.heap.size < W5.heap.size := h1.lt
  refine Lib.hid ?_
  go_wp2_with (go_at_call 20; refine (k_eq2 _ A3 c3 W5.heap.size ((HS3.out.below (bla hy5)).more (by have := hy5.size; simp; omega)) (Blk.at_ (by simp))).mono ?_; rintro _ W6 ⟨rfl, hb6⟩; refine Hid.out ?_)
  have h4 := (h4.alloc (.cells #[.int .i64 2, .int .i64 1] 3)).below hb6 (by simp; omega)
  have c0 := h4.cell 0; have c1 := h4.cell 1
  simp at c0 c1
  have hw6 : Below w.heap.size w W6 := bl3 (bl2 hw2 hx5) hb6
  clear hb6 hx5 hy5 hx4 hx4' hx3 HS2 HS3 hw2 hw1 g1 h1 l1 l4 h4
  refine Lib.hid ?_
  go_wp2_with (go_at_call 23; refine (k_fair _ W6.heap.size (Blk.new _ _ _)).mono ?_; rintro _ W7 ⟨rfl, hb7⟩; refine Hid.out ?_)
  have hw7 : Below w.heap.size w W7 := bl3 hw6 hb7
  clear hb7
  refine Lib.hid ?_
  go_wp2_with (go_at_call 26; refine (k_pick _ W7.heap.size (Blk.new _ _ _)).mono ?_; rintro _ W8 ⟨rfl, hb8⟩; refine Hid.out ?_)
  have hw8 : Below w.heap.size w W8 := bl3 hw7 hb8
  clear hb8
  refine Lib.hid ?_
  go_wp2_with (go_at_call 44; refine (k_either _).mono ?_; rintro _ W9 ⟨rfl, hb9⟩; refine Hid.out ?_)
  have hw9 : Below w.heap.size w W9 := bl2 hw8 hb9
  clear hb9
  refine Lib.hid ?_
  go_wp2
  go_ret
  exact ⟨rfl, bla hw9⟩
end Go.Proofs.Ytmfbiohdmhbkoaa

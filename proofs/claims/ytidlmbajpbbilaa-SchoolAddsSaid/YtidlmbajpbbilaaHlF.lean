/- Helpers of the laws: known. -/
import Derived.Test.YtidlmbajpbbilaaHlE
namespace Go.Proofs.Ytidlmbajpbbilaa
open Go.RowKit

abbrev clA (W : World) : World := (W.alloc (.cells #[.int .u64 7, .int .u64 3] 63)).alloc (.cells #[.int .u64 7, .int .u64 3] 63)
abbrev clS (W : World) : List Clm := [⟨0, some ⟨W.heap.size, 0, none⟩, 2, [7, 3], false, true⟩, ⟨0, some ⟨W.heap.size + 1, 0, none⟩, 2, [7, 3], true, false⟩]
abbrev clW (W : World) : World := (clA W).alloc (.cells (flat Clm.cells (clS W)).toArray 43)
theorem clms_small (W : World) : ClmsRead (clW W) (clW W).heap.size (some ⟨W.heap.size + 1 + 1, 0, none⟩) (clS W) := by
  refine ⟨sl_one (t := 43) (Blk.at_ (by simp)) rfl rfl, by simp, fun c hc => ?_⟩
  simp only [List.mem_cons, List.not_mem_nil, or_false] at hc
  rcases hc with rfl | rfl
  · exact ⟨sl_one (((Blk.new W _ 63).alloc _).alloc _) rfl rfl, by simp, by simp [IsU64]⟩
  · exact ⟨sl_one (t := 63) ((Blk.at_ (by simp)).alloc _) rfl rfl, by simp, by simp [IsU64]⟩
abbrev caS (W : World) : List Cas := [⟨.slice (some ⟨W.heap.size, 0, none⟩) 1 1, [⟨1, 0, 0, 3⟩], 0⟩, ⟨.slice (some ⟨W.heap.size + 1, 0, none⟩) 1 1, [⟨1, 0, 0, 4⟩], 1⟩]
abbrev caA (W : World) : World := (W.alloc (.cells #[.int .i64 1, .int .i64 0, .int .i64 0, .int .u64 3] 103)).alloc (.cells #[.int .i64 1, .int .i64 0, .int .i64 0, .int .u64 4] 103)
abbrev caW (W : World) : World := (caA W).alloc (.cells (flat Cas.cells (caS W)).toArray 54)
theorem cas_small (W : World) : CasRead (caW W) (caW W).heap.size (some ⟨W.heap.size + 1 + 1, 0, none⟩) (caS W) := by
  refine ⟨sl_one (t := 54) (Blk.at_ (by simp)) rfl rfl, by simp, fun c hc => ?_⟩
  simp only [List.mem_cons, List.not_mem_nil, or_false] at hc
  rcases hc with rfl | rfl
  · exact ⟨⟨_, _, rfl, sl_one (((Blk.new W _ 103).alloc _).alloc _) rfl rfl⟩, by simp, by simp [Tst.ok, Value.oneCell']⟩
  · exact ⟨⟨_, _, rfl, sl_one (t := 103) ((Blk.at_ (by simp)).alloc _) rfl rfl⟩, by simp, by simp [Tst.ok, Value.oneCell']⟩
theorem clW_below (W : World) : Below W.heap.size W (clW W) := by (repeat (first | exact Below.refl _ _ | assumption | (refine Below.alloc ?_ (by first | omega | (simp; omega) | (simp; done)) _) | (refine Below.setCell ?_ (by first | omega | (simp; omega) | (simp; done)) _) | (refine Below.drew ?_) | (refine belowN ?_ _) | (refine Below.trans ?_ (Below.mono ‹Below _ _ _› (by first | omega | (simp; omega) | (simp; done))))))
theorem caW_below (W : World) : Below W.heap.size W (caW W) := by (repeat (first | exact Below.refl _ _ | assumption | (refine Below.alloc ?_ (by first | omega | (simp; omega) | (simp; done)) _) | (refine Below.setCell ?_ (by first | omega | (simp; omega) | (simp; done)) _) | (refine Below.drew ?_) | (refine belowN ?_ _) | (refine Below.trans ?_ (Below.mono ‹Below _ _ _› (by first | omega | (simp; omega) | (simp; done))))))
theorem bl3 {w W1 W2 : World} {o : Obj} (h1 : Below w.heap.size w W1) (h2 : Below (W1.alloc o).heap.size (W1.alloc o) W2) : Below w.heap.size w W2 :=
  h1.trans ((((Below.refl W1.heap.size W1).alloc (Nat.le_refl _) o).trans (h2.mono (by simp))).mono h1.size)
theorem bl2 {w W1 W2 : World} (h1 : Below w.heap.size w W1) (h2 : Below W1.heap.size W1 W2) : Below w.heap.size w W2 := h1.trans (h2.mono h1.size)
theorem bla {w W1 : World} {o : Obj} (h1 : Below w.heap.size w W1) : Below w.heap.size w (W1.alloc o) := h1.alloc h1.size o
set_option maxRecDepth 100000 in
set_option maxHeartbeats 4000000 in
theorem known_any (w : World) : Calls Try.prog 15 #[] w fun e w' => e = .returned (.bool true) ∧ Below w.heap.size w w' := by
  go_enter Try.func15, Try.ntmps15
  go_wp2_with (first | (go_at_call 50; refine (small_any _).mono ?_; rintro _ W1 ⟨ra, rc, A0, c0, A1, c1, A2, c2, A3, c3, rfl, hr1, hb1⟩; have HR1 := Lib.hid hr1; clear hr1) | (go_at_call 33; refine (read_any (smS ra rc A0 c0 A1 c1 A2 c2 A3 c3) [0, 2] 0 (some ⟨W1.heap.size, 0, none⟩) 2 _ ((HR1.out.below (by (repeat (first | exact Below.refl _ _ | assumption | (refine Below.alloc ?_ (by first | omega | (simp; omega) | (simp; done)) _) | (refine Below.setCell ?_ (by first | omega | (simp; omega) | (simp; done)) _) | (refine Below.drew ?_) | (refine belowN ?_ _) | (refine Below.trans ?_ (Below.mono ‹Below _ _ _› (by first | omega | (simp; omega) | (simp; done)))))))).more (by simp)) (by simp) (sl_one (Blk.new W1 _ _) rfl rfl)).mono ?_; rintro _ W2 h; rw [small_read] at h; obtain ⟨B1, k1, B2, k2, rfl, hs1, hs2, hb2⟩ := h; refine Hid.out ?_))
  have hw2 : Below w.heap.size w W2 := bl3 hb1 hb2
  have HS1 := Lib.hid hs1; have HS2 := Lib.hid hs2
  clear hb1 hb2 HR1 hs1 hs2
  refine Lib.hid ?_
  go_wp2_with (first | (go_at_call 50; refine (small_any _).mono ?_; rintro _ W3 ⟨ra, rc, A0, c0, A1, c1, A2, c2, A3, c3, rfl, hr1, hb3⟩; have HR1 := Lib.hid hr1; clear hr1; have g1 := (Blk.new W2 #[.int .i64 3, .slice B1 2 k1, .slice B2 2 k2] 73).below hb3 (by simp)) | (go_at_call 16; refine (count_any (smS ra rc A0 c0 A1 c1 A2 c2 A3 c3) 0 [7, 7] (some ⟨W3.heap.size, 0, none⟩) 2 _ ((HR1.out.below (by (repeat (first | exact Below.refl _ _ | assumption | (refine Below.alloc ?_ (by first | omega | (simp; omega) | (simp; done)) _) | (refine Below.setCell ?_ (by first | omega | (simp; omega) | (simp; done)) _) | (refine Below.drew ?_) | (refine belowN ?_ _) | (refine Below.trans ?_ (Below.mono ‹Below _ _ _› (by first | omega | (simp; omega) | (simp; done)))))))).more (by simp)) (by simp) (by simp [IsU64]) (sl_one (Blk.new W3 _ _) rfl rfl)).mono ?_; rintro _ W4 h; rw [small_count] at h; obtain ⟨D1, l1, rfl, hs3, hb4⟩ := h; refine Hid.out ?_))
  have hw4 : Below w.heap.size w W4 := bl3 (bl3 hw2 hb3) hb4
  have hx4 : Below W2.heap.size W2 W4 := bl3 (bl3 (Below.refl _ _) hb3) hb4
  have g1' := (g1.alloc _).below hb4 (by have := g1.lt; simp; omega)
  have HS3 := Lib.hid hs3
  clear hb3 hb4 HR1 hs3 g1
  refine Lib.hid ?_
  go_wp2_with (first | (go_at_call 50; refine (small_any _).mono ?_; rintro _ W5 ⟨ra, rc, A0, c0, A1, c1, A2, c2, A3, c3, rfl, hr1, hb5⟩; have HR1 := Lib.hid hr1; clear hr1; have g3 := (Blk.new W4 #[.int .i64 9, .int .i64 2, .int .i64 2, .slice D1 3 l1] 30).below hb5 (by simp)) | (go_at_call 23; refine (keeps_any (smS ra rc A0 c0 A1 c1 A2 c2 A3 c3) (clS W5) (some ⟨W5.heap.size + 1 + 1, 0, none⟩) 2 (clW W5) ((HR1.out.below (clW_below W5)).more (by simp; omega)) (clms_small W5)).mono ?_; rintro _ W6 h; rw [small_keeps] at h; obtain ⟨rfl, hb6⟩ := h; refine Hid.out ?_))
  have hz5 := hb5.size
  have hx6 : Below W4.heap.size W4 W6 := bl2 (bl2 (bl3 (Below.refl _ _) hb5) (clW_below W5)) hb6
  have hw6 : Below w.heap.size w W6 := bl2 hw4 hx6
  have g1 := g1'.below hx6 g1'.lt
  have g3' := (g3.below (clW_below W5) g3.lt).below hb6 (by have := g3.lt; simp; omega)
  clear g1' g3 hb5 hb6 HR1 hz5
  refine Lib.hid ?_
  go_wp2_with (first | (go_at_call 50; refine (small_any _).mono ?_; rintro _ W7 ⟨ra, rc, A0, c0, A1, c1, A2, c2, A3, c3, rfl, hr1, hb7⟩; have HR1 := Lib.hid hr1; clear hr1) | (go_at_call 45; refine (idle_any (smS ra rc A0 c0 A1 c1 A2 c2 A3 c3) _ HR1.out).mono ?_; rintro _ W8 h; rw [small_idle] at h; obtain ⟨F1, m1, rfl, -, hb8⟩ := h; refine Hid.out ?_))
  have hx8 : Below W6.heap.size W6 W8 := bl2 hb7 hb8
  clear hb7 hb8 HR1
  refine Lib.hid ?_
  go_wp2_with (first | (go_at_call 50; refine (small_any _).mono ?_; rintro _ W9 ⟨ra, rc, A0, c0, A1, c1, A2, c2, A3, c3, rfl, hr1, hb9⟩; have HR1 := Lib.hid hr1; clear hr1) | (go_at_call 27; refine (gloss_any (smS ra rc A0 c0 A1 c1 A2 c2 A3 c3) 0 (caS W9) (some ⟨W9.heap.size + 1 + 1, 0, none⟩) 2 (caW W9) (by simp) (by simp) ((HR1.out.below (caW_below W9)).more (by simp; omega)) (cas_small W9)).mono ?_; rintro _ W10 h; rw [small_gloss] at h; obtain ⟨rfl, hb10⟩ := h; refine Hid.out ?_))
  have hx10 : Below W6.heap.size W6 W10 := bl2 hx8 (bl2 (bl2 hb9 (caW_below W9)) hb10)
  have hw10 := bl2 hw6 hx10
  have h1 := g1.below hx10 g1.lt
  have h3 := g3'.below hx10 g3'.lt
  have hy2 := bl2 (bl2 hx4 hx6) hx10
  have hy4 := bl2 hx6 hx10
  have hs1 := (HS1.out.below hy2).more hy2.size
  have hs2 := (HS2.out.below hy2).more hy2.size
  have hs3 := (HS3.out.below hy4).more hy4.size
  have HS1 := Lib.hid hs1; have HS2 := Lib.hid hs2; have HS3 := Lib.hid hs3
  clear hb9 hb10 HR1 hx8 hx6 hx4 hw2 hw4 hw6 g1 g3' hs1 hs2 hs3 hx10 hy2 hy4
  have c0 := h1.cell 0; have c1 := h1.cell 1; have c2 := h1.cell 2
  simp at c0 c1 c2
  refine Lib.hid ?_
  go_wp2_with (go_at_call 22; refine (lsame_any B1 (some ⟨W10.heap.size, 0, none⟩) k1 2 [0, 2] [0, 2] _ (by simp) ((HS1.out.below (by (repeat (first | exact Below.refl _ _ | assumption | (refine Below.alloc ?_ (by first | omega | (simp; omega) | (simp; done)) _) | (refine Below.setCell ?_ (by first | omega | (simp; omega) | (simp; done)) _) | (refine Below.drew ?_) | (refine belowN ?_ _) | (refine Below.trans ?_ (Below.mono ‹Below _ _ _› (by first | omega | (simp; omega) | (simp; done)))))))).more (by simp)) (sl_one (Blk.new W10 _ _) rfl rfl)).mono ?_; rintro _ W11 ⟨rfl, hb11⟩; refine Hid.out ?_)
  have hx11 : Below W10.heap.size W10 W11 := bl3 (Below.refl _ _) hb11
  have g1 := h1.below hx11 h1.lt
  have c0 := g1.cell 0; have c1 := g1.cell 1; have c2 := g1.cell 2
  simp at c0 c1 c2
  refine Lib.hid ?_
  go_wp2_with (go_at_call 22; refine (lsame_any B2 (some ⟨W11.heap.size, 0, none⟩) k2 2 [0, 2] [0, 2] _ (by simp) ((HS2.out.below (hx11.trans (((Below.refl _ _).alloc (Nat.le_refl _) _).mono hx11.size))).more (by have := hx11.size; simp; omega)) (sl_one (Blk.new W11 _ _) rfl rfl)).mono ?_; rintro _ W12 ⟨rfl, hb12⟩; refine Hid.out ?_)
  have hx12 : Below W10.heap.size W10 W12 := bl3 hx11 hb12
  have g3 := h3.below hx12 h3.lt
  have d0 := g3.cell 0; have d1 := g3.cell 1; have d2 := g3.cell 2; have d3 := g3.cell 3
  simp at d0 d1 d2 d3
  refine Lib.hid ?_
  go_wp2_with (go_at_call 22; refine (lsame_any D1 (some ⟨W12.heap.size, 0, none⟩) l1 3 [2, 3, 0] [2, 3, 0] _ (by simp) ((HS3.out.below (hx12.trans (((Below.refl _ _).alloc (Nat.le_refl _) _).mono hx12.size))).more (by have := hx12.size; simp; omega)) (sl_one (Blk.new W12 _ _) rfl rfl)).mono ?_; rintro _ W13 ⟨rfl, hb13⟩; refine Hid.out ?_)
  have hx13 := bl2 hw10 (bl3 hx12 hb13)
  refine Lib.hid ?_
  go_wp2
  go_ret
  exact ⟨rfl, hx13⟩
end Go.Proofs.Ytidlmbajpbbilaa

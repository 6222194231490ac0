/- habit: the law's calls at the document's values. -/
import Derived.Test.YtiikkcifdhcejaaWq
namespace Go.Proofs.Ytiikkcifdhcejaa
open Go.RowKit

/-- a model of one row, in a block of its own -/
theorem one_md {W : World} {b : Nat} {A : Option Addr} {c : Nat} {l : List Int} {k af : Int} {t : TypeId} (g : Blk W b #[.slice A l.length c] t) (hl : l.length ≤ 1000000) (hr : Sl intCell 1 W W.heap.size A l) :
    (⟨k, some ⟨b, 0, none⟩, 1, [⟨A, c, l⟩], af⟩ : Md).reads W W.heap.size :=
  ⟨⟨sl_one g (by simp [flat, LL.cells]) (by simp [flat, LL.cells, LL.val]), fun x hx => by simp at hx; subst hx; exact hr⟩, by simp, fun r hr => by simp at hr; subst hr; exact hl⟩
set_option maxRecDepth 100000 in
theorem lsteady_any (A : Option Addr) (c n : Nat) (l : List Int) (w : World) (hn : l.length = n) (hl : l.length ≤ 1000000) (hr : Sl intCell 1 w w.heap.size A l) :
    Calls Try.prog 39 #[.slice A n c] w fun e w' => ∃ x : Md, e = .returned (.agg #[.int .i64 x.kind, .slice x.a x.rows.length x.c, .int .i64 x.after]) ∧ x.m = ⟨1, [l], 0⟩ ∧ x.reads w' w'.heap.size ∧ Below w.heap.size w w' := by
  subst hn
  have HR := Lib.hid hr; have HL := Lib.hid hl
  clear hr hl
  go_enter Try.func39, Try.ntmps39
  go_wp2
  refine gen_w (fun W => Blk W w.heap.size #[.int .i64 1, .slice (some ⟨w.heap.size + 1, 0, none⟩) 1 1, .int .i64 0] 25 ∧ Blk W (w.heap.size + 1) #[.slice A l.length c] 30 ∧ Below w.heap.size w W) ⟨(Blk.new w _ _).alloc _, Blk.at_ (by simp), by (repeat (first | exact Below.refl _ _ | assumption | (refine Below.alloc ?_ (by first | omega | (simp; omega) | (simp; done)) _) | (refine Below.setCell ?_ (by first | omega | (simp; omega) | (simp; done)) _) | (refine Below.drew ?_) | (refine belowN ?_ _) | (refine Below.trans ?_ (Below.mono ‹Below _ _ _› (by first | omega | (simp; omega) | (simp; done))))))⟩ ?_
  rintro W ⟨g, g1, hW⟩
  have q0 := g.cell 0; have q1 := g.cell 1; have q2 := g.cell 2
  simp at q0 q1 q2
  exact bodyPost_ret (v := .agg #[.int .i64 1, .slice (some ⟨w.heap.size + 1, 0, none⟩) 1 1, .int .i64 0]) (by simp [results, Try.results39, go_sem, q0, q1, q2]) rfl ⟨⟨1, some ⟨w.heap.size + 1, 0, none⟩, 1, [⟨A, c, l⟩], 0⟩, rfl, rfl, one_md g1 HL.out ((HR.out.below hW).more hW.size), hW⟩
set_option maxRecDepth 100000 in
theorem ldeck_any (af : Int) (A : Option Addr) (c n : Nat) (l : List Int) (w : World) (hn : l.length = n) (hl : l.length ≤ 1000000) (hr : Sl intCell 1 w w.heap.size A l) :
    Calls Try.prog 28 #[.int .i64 af, .slice A n c] w fun e w' => ∃ x : Md, e = .returned (.agg #[.int .i64 x.kind, .slice x.a x.rows.length x.c, .int .i64 x.after]) ∧ x.m = ⟨3, [l], af⟩ ∧ x.reads w' w'.heap.size ∧ Below w.heap.size w w' := by
  subst hn
  have HR := Lib.hid hr; have HL := Lib.hid hl
  clear hr hl
  go_enter Try.func28, Try.ntmps28
  go_wp2
  refine gen_w (fun W => Blk W w.heap.size #[.int .i64 3, .slice (some ⟨w.heap.size + 1, 0, none⟩) 1 1, .int .i64 af] 25 ∧ Blk W (w.heap.size + 1) #[.slice A l.length c] 30 ∧ Below w.heap.size w W) ⟨(Blk.new w _ _).alloc _, Blk.at_ (by simp), by (repeat (first | exact Below.refl _ _ | assumption | (refine Below.alloc ?_ (by first | omega | (simp; omega) | (simp; done)) _) | (refine Below.setCell ?_ (by first | omega | (simp; omega) | (simp; done)) _) | (refine Below.drew ?_) | (refine belowN ?_ _) | (refine Below.trans ?_ (Below.mono ‹Below _ _ _› (by first | omega | (simp; omega) | (simp; done))))))⟩ ?_
  rintro W ⟨g, g1, hW⟩
  have q0 := g.cell 0; have q1 := g.cell 1; have q2 := g.cell 2
  simp at q0 q1 q2
  exact bodyPost_ret (v := .agg #[.int .i64 3, .slice (some ⟨w.heap.size + 1, 0, none⟩) 1 1, .int .i64 af]) (by simp [results, Try.results28, go_sem, q0, q1, q2]) rfl ⟨⟨3, some ⟨w.heap.size + 1, 0, none⟩, 1, [⟨A, c, l⟩], af⟩, rfl, rfl, one_md g1 HL.out ((HR.out.below hW).more hW.size), hW⟩
/-- a slice of integers that has just been made -/
theorem new_sl (w : World) (l : List Int) (cs : Array Value) (h : (l.map (Value.int .i64)).toArray = cs) : Sl intCell 1 (w.alloc (.cells cs 3)) (w.alloc (.cells cs 3)).heap.size (some ⟨w.heap.size, 0, none⟩) l := by
  subst h
  exact Arr.sl (Blk.new w _ _)
theorem rd_step {x : Md} {W W' : World} (h : x.reads W W.heap.size) (hb : Below W.heap.size W W') : x.reads W' W'.heap.size := (h.below hb).more hb.size
theorem al_step (W : World) (o : Obj) : Below W.heap.size W (W.alloc o) := (Below.refl _ _).alloc (Nat.le_refl _) o
theorem al_then {W W' : World} {o : Obj} (h : Below (W.alloc o).heap.size (W.alloc o) W') : Below W.heap.size W W' := (al_step W o).trans (h.mono (by simp))
theorem three_md {W : World} {b1 b2 b3 b4 c1 c2 c3 : Nat} {l1 l2 l3 : List Int} {k af : Int} {t : TypeId} (g1 : Arr W b1 l1) (g2 : Arr W b2 l2) (g3 : Arr W b3 l3) (g4 : Blk W b4 #[.slice (some ⟨b1, 0, none⟩) l1.length c1, .slice (some ⟨b2, 0, none⟩) l2.length c2, .slice (some ⟨b3, 0, none⟩) l3.length c3] t)
    (h1 : l1.length ≤ 1000000) (h2 : l2.length ≤ 1000000) (h3 : l3.length ≤ 1000000) : (⟨k, some ⟨b4, 0, none⟩, 3, [⟨some ⟨b1, 0, none⟩, c1, l1⟩, ⟨some ⟨b2, 0, none⟩, c2, l2⟩, ⟨some ⟨b3, 0, none⟩, c3, l3⟩], af⟩ : Md).reads W W.heap.size :=
  ⟨⟨sl_one g4 (by simp [flat, LL.cells]) (by simp [flat, LL.cells, LL.val]), fun x hx => by
    have hx : x ∈ [(⟨some ⟨b1, 0, none⟩, c1, l1⟩ : LL), ⟨some ⟨b2, 0, none⟩, c2, l2⟩, ⟨some ⟨b3, 0, none⟩, c3, l3⟩] := hx
    simp at hx
    rcases hx with rfl | rfl | rfl
    · exact g1.sl
    · exact g2.sl
    · exact g3.sl⟩, by show 3 ≤ 1000000; omega, fun r hr => by
    have hr : r ∈ [(⟨some ⟨b1, 0, none⟩, c1, l1⟩ : LL), ⟨some ⟨b2, 0, none⟩, c2, l2⟩, ⟨some ⟨b3, 0, none⟩, c3, l3⟩] := hr
    simp at hr
    rcases hr with rfl | rfl | rfl <;> assumption⟩
theorem k_cmp : hcmpR ⟨1, [[1, 1]], 0⟩ ⟨1, [[3, 1]], 0⟩ [0, 0, 1] = (-1, 0) := by kernel_rfl
theorem k_ch1 : chanR ⟨2, [[1, 1], [1, 3], [1, 1]], 0⟩ [0, 1, 1] = (3, 16, 0) := by kernel_rfl
theorem k_ch2 : chanR ⟨3, [[2, 1]], 2⟩ [0, 0, 0] = (2, 9, 0) := by kernel_rfl
theorem k_ex : exclR ⟨3, [[2, 1]], 2⟩ [1, 1] = (1, 0) := by kernel_rfl
theorem k_bel : belR ⟨1, 2⟩ ⟨1, [[3, 1]], 0⟩ ⟨1, [[1, 1]], 0⟩ [0] = (3, 5, 0) := by kernel_rfl
theorem k_chg : chgR ⟨1, [[1, 0]], 0⟩ ⟨1, [[0, 1]], 0⟩ [0, 0, 1, 1] = (2, 0) := by kernel_rfl
set_option maxRecDepth 100000 in
set_option maxHeartbeats 8000000 in
theorem known_any (w : World) : Calls Try.prog 12 #[] w fun e w' => e = .returned (.bool true) ∧ Below w.heap.size w w' := by
  go_enter Try.func12, Try.ntmps12
  go_wp2_with fail
  refine (lsteady_any _ _ _ [1, 1] _ rfl (by simp) (new_sl w [1, 1] _ rfl)).mono ?_
  rintro _ w1 ⟨x1, rfl, hw1, rw1, bw1⟩
  have bw1 := al_then bw1
  have Hw1 := Lib.hid hw1
  clear hw1
  have hw := bw1
  clear bw1
  go_wp2_with fail
  refine (lsteady_any _ _ _ [3, 1] _ rfl (by simp) (new_sl w1 [3, 1] _ rfl)).mono ?_
  rintro _ w2 ⟨x2, rfl, hw2, rw2, bw2⟩
  have bw2 := al_then bw2
  have Hw2 := Lib.hid hw2
  clear hw2
  have rw1 := rd_step rw1 bw2
  have hw := bl2 hw bw2
  clear bw2
  go_wp2_with fail
  have hc := habCmp_any x1 x2 [0, 0, 1] (some ⟨w2.heap.size, 0, none⟩) 3 (w2.alloc (.cells #[.int .i64 0, .int .i64 0, .int .i64 1] 3)) (by simp) (rd_step rw1 (al_step _ _)) (rd_step rw2 (al_step _ _)) (new_sl w2 [0, 0, 1] _ rfl)
  rw [Hw1.out, Hw2.out, k_cmp] at hc
  refine hc.mono ?_
  rintro _ w3 ⟨rfl, bw3⟩
  have hw := bl2 hw (al_then bw3)
  clear bw3 hc rw1 rw2
  go_upto_region 2 with fail
  refine gen_w (fun V => (Below w.heap.size w V)) hw ?_
  clear hw
  rintro w4 hw
  go_wp2_with fail
  have q1 : Arr (((((w4.alloc (.cells #[.int .i64 1, .int .i64 1] 3)).alloc (.cells #[.int .i64 1, .int .i64 3] 3)).alloc (.cells #[.int .i64 1, .int .i64 1] 3)).alloc (.cells #[.slice (some ⟨w4.heap.size, 0, none⟩) 2 2, .slice (some ⟨w4.heap.size + 1, 0, none⟩) 2 2, .slice (some ⟨w4.heap.size + 1 + 1, 0, none⟩) 2 2] 30)).alloc (.cells #[.int .i64 0, .int .i64 1, .int .i64 1] 3)) w4.heap.size [1, 1] := ((((Blk.new w4 _ _).alloc _).alloc _).alloc _).alloc _
  have q2 : Arr (((((w4.alloc (.cells #[.int .i64 1, .int .i64 1] 3)).alloc (.cells #[.int .i64 1, .int .i64 3] 3)).alloc (.cells #[.int .i64 1, .int .i64 1] 3)).alloc (.cells #[.slice (some ⟨w4.heap.size, 0, none⟩) 2 2, .slice (some ⟨w4.heap.size + 1, 0, none⟩) 2 2, .slice (some ⟨w4.heap.size + 1 + 1, 0, none⟩) 2 2] 30)).alloc (.cells #[.int .i64 0, .int .i64 1, .int .i64 1] 3)) (w4.heap.size + 1) [1, 3] := (((Blk.at_ (by simp)).alloc _).alloc _).alloc _
  have q3 : Arr (((((w4.alloc (.cells #[.int .i64 1, .int .i64 1] 3)).alloc (.cells #[.int .i64 1, .int .i64 3] 3)).alloc (.cells #[.int .i64 1, .int .i64 1] 3)).alloc (.cells #[.slice (some ⟨w4.heap.size, 0, none⟩) 2 2, .slice (some ⟨w4.heap.size + 1, 0, none⟩) 2 2, .slice (some ⟨w4.heap.size + 1 + 1, 0, none⟩) 2 2] 30)).alloc (.cells #[.int .i64 0, .int .i64 1, .int .i64 1] 3)) (w4.heap.size + 1 + 1) [1, 1] := ((Blk.at_ (by simp)).alloc _).alloc _
  have q4 : Blk (((((w4.alloc (.cells #[.int .i64 1, .int .i64 1] 3)).alloc (.cells #[.int .i64 1, .int .i64 3] 3)).alloc (.cells #[.int .i64 1, .int .i64 1] 3)).alloc (.cells #[.slice (some ⟨w4.heap.size, 0, none⟩) 2 2, .slice (some ⟨w4.heap.size + 1, 0, none⟩) 2 2, .slice (some ⟨w4.heap.size + 1 + 1, 0, none⟩) 2 2] 30)).alloc (.cells #[.int .i64 0, .int .i64 1, .int .i64 1] 3)) (w4.heap.size + 1 + 1 + 1) #[.slice (some ⟨w4.heap.size, 0, none⟩) 2 2, .slice (some ⟨w4.heap.size + 1, 0, none⟩) 2 2, .slice (some ⟨w4.heap.size + 1 + 1, 0, none⟩) 2 2] 30 := (Blk.at_ (by simp)).alloc _
  have q5 : Arr (((((w4.alloc (.cells #[.int .i64 1, .int .i64 1] 3)).alloc (.cells #[.int .i64 1, .int .i64 3] 3)).alloc (.cells #[.int .i64 1, .int .i64 1] 3)).alloc (.cells #[.slice (some ⟨w4.heap.size, 0, none⟩) 2 2, .slice (some ⟨w4.heap.size + 1, 0, none⟩) 2 2, .slice (some ⟨w4.heap.size + 1 + 1, 0, none⟩) 2 2] 30)).alloc (.cells #[.int .i64 0, .int .i64 1, .int .i64 1] 3)) (w4.heap.size + 1 + 1 + 1 + 1) [0, 1, 1] := Blk.at_ (by simp)
  have hu : Below w4.heap.size w4 (((((w4.alloc (.cells #[.int .i64 1, .int .i64 1] 3)).alloc (.cells #[.int .i64 1, .int .i64 3] 3)).alloc (.cells #[.int .i64 1, .int .i64 1] 3)).alloc (.cells #[.slice (some ⟨w4.heap.size, 0, none⟩) 2 2, .slice (some ⟨w4.heap.size + 1, 0, none⟩) 2 2, .slice (some ⟨w4.heap.size + 1 + 1, 0, none⟩) 2 2] 30)).alloc (.cells #[.int .i64 0, .int .i64 1, .int .i64 1] 3)) := by (repeat (first | exact Below.refl _ _ | assumption | (refine Below.alloc ?_ (by first | omega | (simp; omega) | (simp; done)) _) | (refine Below.setCell ?_ (by first | omega | (simp; omega) | (simp; done)) _) | (refine Below.drew ?_) | (refine belowN ?_ _) | (refine Below.trans ?_ (Below.mono ‹Below _ _ _› (by first | omega | (simp; omega) | (simp; done))))))
  have hc := chanF_any ⟨2, some ⟨w4.heap.size + 1 + 1 + 1, 0, none⟩, 3, [⟨some ⟨w4.heap.size, 0, none⟩, 2, [1, 1]⟩, ⟨some ⟨w4.heap.size + 1, 0, none⟩, 2, [1, 3]⟩, ⟨some ⟨w4.heap.size + 1 + 1, 0, none⟩, 2, [1, 1]⟩], 0⟩ [0, 1, 1] (some ⟨w4.heap.size + 1 + 1 + 1 + 1, 0, none⟩) 3 (((((w4.alloc (.cells #[.int .i64 1, .int .i64 1] 3)).alloc (.cells #[.int .i64 1, .int .i64 3] 3)).alloc (.cells #[.int .i64 1, .int .i64 1] 3)).alloc (.cells #[.slice (some ⟨w4.heap.size, 0, none⟩) 2 2, .slice (some ⟨w4.heap.size + 1, 0, none⟩) 2 2, .slice (some ⟨w4.heap.size + 1 + 1, 0, none⟩) 2 2] 30)).alloc (.cells #[.int .i64 0, .int .i64 1, .int .i64 1] 3)) (by simp) (three_md q1 q2 q3 q4 (by simp) (by simp) (by simp)) q5.sl
  have hv : chanR (Md.m ⟨2, some ⟨w4.heap.size + 1 + 1 + 1, 0, none⟩, 3, [⟨some ⟨w4.heap.size, 0, none⟩, 2, [1, 1]⟩, ⟨some ⟨w4.heap.size + 1, 0, none⟩, 2, [1, 3]⟩, ⟨some ⟨w4.heap.size + 1 + 1, 0, none⟩, 2, [1, 1]⟩], 0⟩) [0, 1, 1] = (3, 16, 0) := k_ch1
  rw [hv] at hc
  refine hc.mono ?_
  rintro _ w5 ⟨rfl, bw5⟩
  have hw := bl2 (bl2 hw hu) bw5
  clear bw5 hc hv q1 q2 q3 q4 q5 hu
  go_upto_region 3 with fail
  obtain ⟨c3, hc3⟩ : ∃ q, q = w5.heap.size := ⟨_, rfl⟩
  rw [← hc3]
  refine gen_w (fun V => (Below w.heap.size w V) ∧ (Blk V c3 #[.int .i64 3, .int .i64 16] 27 ∧ c3 < V.heap.size)) ⟨hw.alloc hw.size _, ⟨Blk.at_ hc3, by simp [hc3]⟩⟩ ?_
  clear hw hc3
  rintro w6 ⟨hw, ⟨g3, lg3⟩⟩
  go_wp2_with fail
  refine (ldeck_any 2 _ _ _ [2, 1] _ rfl (by simp) (new_sl w6 [2, 1] _ rfl)).mono ?_
  rintro _ w7 ⟨x7, rfl, hw7, rw7, bw7⟩
  have bw7 := al_then bw7
  have Hw7 := Lib.hid hw7
  have g3 := g3.below bw7 (by omega)
  have lg3 : c3 < w7.heap.size := Nat.lt_of_lt_of_le lg3 bw7.size
  have hw := bl2 hw bw7
  clear bw7 hw7
  go_wp2_with fail
  have hc := chanF_any x7 [0, 0, 0] (some ⟨w7.heap.size, 0, none⟩) 3 (w7.alloc (.cells #[.int .i64 0, .int .i64 0, .int .i64 0] 3)) (by simp) (rd_step rw7 (al_step _ _)) (new_sl w7 [0, 0, 0] _ rfl)
  rw [Hw7.out, k_ch2] at hc
  refine hc.mono ?_
  rintro _ w8 ⟨rfl, bw8⟩
  have bw8 := al_then bw8
  have g3 := g3.below bw8 (by omega)
  have lg3 : c3 < w8.heap.size := Nat.lt_of_lt_of_le lg3 bw8.size
  have hw := bl2 hw bw8
  clear bw8 hc rw7
  go_upto_region 4 with fail
  obtain ⟨c5, hc5⟩ : ∃ q, q = w8.heap.size := ⟨_, rfl⟩
  rw [← hc5]
  refine gen_w (fun V => (Below w.heap.size w V) ∧ (Blk V c3 #[.int .i64 3, .int .i64 16] 27 ∧ c3 < V.heap.size) ∧ (Blk V c5 #[.int .i64 2, .int .i64 9] 27 ∧ c5 < V.heap.size)) ⟨hw.alloc hw.size _, ⟨g3.alloc _, Nat.lt_of_lt_of_le lg3 (by simp)⟩, ⟨Blk.at_ hc5, by simp [hc5]⟩⟩ ?_
  clear hw g3 lg3 hc5
  rintro w9 ⟨hw, ⟨g3, lg3⟩, ⟨g5, lg5⟩⟩
  go_wp2_with fail
  refine (ldeck_any 2 _ _ _ [2, 1] _ rfl (by simp) (new_sl w9 [2, 1] _ rfl)).mono ?_
  rintro _ w10 ⟨x10, rfl, hw10, rw10, bw10⟩
  have bw10 := al_then bw10
  have Hw10 := Lib.hid hw10
  have g3 := g3.below bw10 (by omega)
  have lg3 : c3 < w10.heap.size := Nat.lt_of_lt_of_le lg3 bw10.size
  have g5 := g5.below bw10 (by omega)
  have lg5 : c5 < w10.heap.size := Nat.lt_of_lt_of_le lg5 bw10.size
  have hw := bl2 hw bw10
  clear bw10 hw10
  go_wp2_with fail
  have hc := excl_any x10 [1, 1] (some ⟨w10.heap.size, 0, none⟩) 2 (w10.alloc (.cells #[.int .i64 1, .int .i64 1] 3)) (by simp) (rd_step rw10 (al_step _ _)) (new_sl w10 [1, 1] _ rfl)
  rw [Hw10.out, k_ex] at hc
  refine hc.mono ?_
  rintro _ w11 ⟨rfl, bw11⟩
  have bw11 := al_then bw11
  have g3 := g3.below bw11 (by omega)
  have lg3 : c3 < w11.heap.size := Nat.lt_of_lt_of_le lg3 bw11.size
  have g5 := g5.below bw11 (by omega)
  have lg5 : c5 < w11.heap.size := Nat.lt_of_lt_of_le lg5 bw11.size
  have hw := bl2 hw bw11
  clear bw11 hc rw10
  go_upto_region 5 with fail
  refine gen_w (fun V => (Below w.heap.size w V) ∧ (Blk V c3 #[.int .i64 3, .int .i64 16] 27 ∧ c3 < V.heap.size) ∧ (Blk V c5 #[.int .i64 2, .int .i64 9] 27 ∧ c5 < V.heap.size)) ⟨hw, ⟨g3, lg3⟩, ⟨g5, lg5⟩⟩ ?_
  clear hw g3 lg3 g5 lg5
  rintro w12 ⟨hw, ⟨g3, lg3⟩, ⟨g5, lg5⟩⟩
  go_wp2_with fail
  refine (lsteady_any _ _ _ [3, 1] _ rfl (by simp) (new_sl w12 [3, 1] _ rfl)).mono ?_
  rintro _ w13 ⟨x13, rfl, hw13, rw13, bw13⟩
  have bw13 := al_then bw13
  have Hw13 := Lib.hid hw13
  have g3 := g3.below bw13 (by omega)
  have lg3 : c3 < w13.heap.size := Nat.lt_of_lt_of_le lg3 bw13.size
  have g5 := g5.below bw13 (by omega)
  have lg5 : c5 < w13.heap.size := Nat.lt_of_lt_of_le lg5 bw13.size
  have hw := bl2 hw bw13
  clear bw13 hw13
  go_wp2_with fail
  refine (lsteady_any _ _ _ [1, 1] _ rfl (by simp) (new_sl w13 [1, 1] _ rfl)).mono ?_
  rintro _ w14 ⟨x14, rfl, hw14, rw14, bw14⟩
  have bw14 := al_then bw14
  have Hw14 := Lib.hid hw14
  have rw13 := rd_step rw13 bw14
  have g3 := g3.below bw14 (by omega)
  have lg3 : c3 < w14.heap.size := Nat.lt_of_lt_of_le lg3 bw14.size
  have g5 := g5.below bw14 (by omega)
  have lg5 : c5 < w14.heap.size := Nat.lt_of_lt_of_le lg5 bw14.size
  have hw := bl2 hw bw14
  clear bw14 hw14
  go_wp2_with fail
  have hc := belF_any ⟨1, 2⟩ x13 x14 [0] (some ⟨w14.heap.size, 0, none⟩) 1 (w14.alloc (.cells #[.int .i64 0] 3)) (by simp) (rd_step rw13 (al_step _ _)) (rd_step rw14 (al_step _ _)) (new_sl w14 [0] _ rfl)
  rw [Hw13.out, Hw14.out, k_bel] at hc
  refine hc.mono ?_
  rintro _ w15 ⟨rfl, bw15⟩
  have bw15 := al_then bw15
  have g3 := g3.below bw15 (by omega)
  have lg3 : c3 < w15.heap.size := Nat.lt_of_lt_of_le lg3 bw15.size
  have g5 := g5.below bw15 (by omega)
  have lg5 : c5 < w15.heap.size := Nat.lt_of_lt_of_le lg5 bw15.size
  have hw := bl2 hw bw15
  clear bw15 hc rw13 rw14
  go_upto_region 6 with fail
  obtain ⟨c9, hc9⟩ : ∃ q, q = w15.heap.size := ⟨_, rfl⟩
  rw [← hc9]
  refine gen_w (fun V => (Below w.heap.size w V) ∧ (Blk V c3 #[.int .i64 3, .int .i64 16] 27 ∧ c3 < V.heap.size) ∧ (Blk V c5 #[.int .i64 2, .int .i64 9] 27 ∧ c5 < V.heap.size) ∧ (Blk V c9 #[.int .i64 3, .int .i64 5] 27 ∧ c9 < V.heap.size)) ⟨hw.alloc hw.size _, ⟨g3.alloc _, Nat.lt_of_lt_of_le lg3 (by simp)⟩, ⟨g5.alloc _, Nat.lt_of_lt_of_le lg5 (by simp)⟩, ⟨Blk.at_ hc9, by simp [hc9]⟩⟩ ?_
  clear hw g3 lg3 g5 lg5 hc9
  rintro w16 ⟨hw, ⟨g3, lg3⟩, ⟨g5, lg5⟩, ⟨g9, lg9⟩⟩
  go_wp2_with fail
  refine (lsteady_any _ _ _ [1, 0] _ rfl (by simp) (new_sl w16 [1, 0] _ rfl)).mono ?_
  rintro _ w17 ⟨x17, rfl, hw17, rw17, bw17⟩
  have bw17 := al_then bw17
  have Hw17 := Lib.hid hw17
  have g3 := g3.below bw17 (by omega)
  have lg3 : c3 < w17.heap.size := Nat.lt_of_lt_of_le lg3 bw17.size
  have g5 := g5.below bw17 (by omega)
  have lg5 : c5 < w17.heap.size := Nat.lt_of_lt_of_le lg5 bw17.size
  have g9 := g9.below bw17 (by omega)
  have lg9 : c9 < w17.heap.size := Nat.lt_of_lt_of_le lg9 bw17.size
  have hw := bl2 hw bw17
  clear bw17 hw17
  go_wp2_with fail
  refine (lsteady_any _ _ _ [0, 1] _ rfl (by simp) (new_sl w17 [0, 1] _ rfl)).mono ?_
  rintro _ w18 ⟨x18, rfl, hw18, rw18, bw18⟩
  have bw18 := al_then bw18
  have Hw18 := Lib.hid hw18
  have rw17 := rd_step rw17 bw18
  have g3 := g3.below bw18 (by omega)
  have lg3 : c3 < w18.heap.size := Nat.lt_of_lt_of_le lg3 bw18.size
  have g5 := g5.below bw18 (by omega)
  have lg5 : c5 < w18.heap.size := Nat.lt_of_lt_of_le lg5 bw18.size
  have g9 := g9.below bw18 (by omega)
  have lg9 : c9 < w18.heap.size := Nat.lt_of_lt_of_le lg9 bw18.size
  have hw := bl2 hw bw18
  clear bw18 hw18
  go_wp2_with fail
  have hc := chgF_any x17 x18 [0, 0, 1, 1] (some ⟨w18.heap.size, 0, none⟩) 4 (w18.alloc (.cells #[.int .i64 0, .int .i64 0, .int .i64 1, .int .i64 1] 3)) (by simp) (by simp) (rd_step rw17 (al_step _ _)) (rd_step rw18 (al_step _ _)) (new_sl w18 [0, 0, 1, 1] _ rfl)
  rw [Hw17.out, Hw18.out, k_chg] at hc
  refine hc.mono ?_
  rintro _ w19 ⟨rfl, bw19⟩
  have bw19 := al_then bw19
  have g3 := g3.below bw19 (by omega)
  have lg3 : c3 < w19.heap.size := Nat.lt_of_lt_of_le lg3 bw19.size
  have g5 := g5.below bw19 (by omega)
  have lg5 : c5 < w19.heap.size := Nat.lt_of_lt_of_le lg5 bw19.size
  have g9 := g9.below bw19 (by omega)
  have lg9 : c9 < w19.heap.size := Nat.lt_of_lt_of_le lg9 bw19.size
  have hw := bl2 hw bw19
  clear bw19 hc rw17 rw18
  go_upto_region 7 with fail
  have eg30 := g3.cell 0; have eg31 := g3.cell 1
  have eg50 := g5.cell 0; have eg51 := g5.cell 1
  have eg90 := g9.cell 0; have eg91 := g9.cell 1
  simp at eg30 eg31 eg50 eg51 eg90 eg91
  go_wp2_with fail
  go_ret
  exact ⟨rfl, hw⟩
end Go.Proofs.Ytiikkcifdhcejaa

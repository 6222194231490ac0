/- odds: Join. -/
import Derived.Test.YtmfbiohdmhbkoaaGj
import Derived.Test.YtmfbiohdmhbkoaaGn
namespace Go.Proofs.Ytmfbiohdmhbkoaa
open Go.RowKit

theorem ent_joinc : Ent 88 := ent_of Try.func88 (by kernel_rfl) rfl
set_option maxRecDepth 100000 in
set_option maxHeartbeats 1000000 in
theorem joinc_any (i j g ob n : Nat) (x : Int) (L : List Int) (W : World) (h1 : Own W g n L) (h2 : Blk W ob #[.slice (some ⟨g, 0, none⟩) L.length n] 22) (hi : L.length + 1 ≤ n) (hne : g ≠ ob) :
    Calls Try.prog 88 (#[.int .i64 i, .int .i64 j, .int .i64 x] ++ #[.pointer (some ⟨ob, 0, none⟩)]) W fun e W' => (∃ v, e = .returned v) ∧ ∃ W1, (W.alloc (.cells #[.int .i64 x] 3)).grownBy W1 (some g) ∧ Own W1 g n (L ++ [x]) ∧ W' = W1.setCell ⟨ob, 0, none⟩ (.slice (some ⟨g, 0, none⟩) (L.length + 1) n) := by
  obtain ⟨i0, hii, iz0, iz1, iz2⟩ := info_parts infoInt
  have o0 := h2.cell 0
  simp at o0
  have HOK : Hid (W.ownsRow 0 3 1 (.slice (some ⟨g, 0, none⟩) L.length n) L.length (L.map (Value.int .i64))) := h1
  have HB := Lib.hid h2
  have hol := h2.lt
  have N1 : Hid ((some ob : Option Nat) ≠ some g) := (fun e => by injection e with e; omega : (some ob : Option Nat) ≠ some g)
  clear h1 h2
  go_enter Try.func88, Try.ntmps88
  go_wp2_with (at_builtin; refine wpList_append_own_spare _ rfl _ _ 22 rfl 0 3 i0 1 uInts hii iz1 g L.length n _ rfl (HOK.out.alloc _) ⟨W.heap.size, 0, none⟩ 1 1 [.int .i64 x] rfl rfl (cell_one_new _ _ _) (by simp [Value.oneCell']) (by omega) ?_; intro w5 hown5 hgr5; have gV := Blk.grown (HB.out.alloc (.cells #[.int .i64 x] 3)) hgr5 N1.out; have o5 := gV.cell 0; have f5 := gV.free 0; simp at o5)
  go_end0
  exact ⟨⟨_, rfl⟩, _, hgr5, Own.snoc rfl hown5, rfl⟩
/-- the products of the first i rows, and of j more -/
def pairTo (a b : List Int) (i j : Nat) : List Int := pairs (a.take i) b ++ (b.take j).map fun y => a.getD i 0 * y
theorem pairTo_zero (a b : List Int) : pairTo a b 0 0 = [] := by simp [pairTo, pairs]
theorem pairTo_next (a b : List Int) {i j : Nat} (hj : j < b.length) : pairTo a b i (j + 1) = pairTo a b i j ++ [a.getD i 0 * b[j]] := by
  unfold pairTo; rw [take_snoc_int b j hj, List.map_append, ← List.append_assoc]; rfl
theorem pairTo_row (a b : List Int) {i : Nat} (hi : i < a.length) : pairTo a b (i + 1) 0 = pairTo a b i b.length := by
  unfold pairTo pairs
  rw [take_snoc_int a i hi, List.take_length, List.flatMap_append]
  have e : a.getD i 0 = a[i] := by simp [hi]
  rw [e]; simp
theorem pairs_len (a b : List Int) : (pairs a b).length = a.length * b.length := by
  unfold pairs
  induction a with
  | nil => simp
  | cons x a ih => simp only [List.flatMap_cons, List.length_append, List.length_map, List.length_cons, ih, Nat.add_mul]; omega
theorem pairTo_len (a b : List Int) {i j : Nat} (hi : i ≤ a.length) (hj : j ≤ b.length) : (pairTo a b i j).length = i * b.length + j := by
  unfold pairTo; rw [List.length_append, pairs_len, List.length_map, List.length_take, List.length_take, Nat.min_eq_left hi, Nat.min_eq_left hj]
theorem pairTo_all (a b : List Int) : pairTo a b a.length 0 = pairs a b := by simp [pairTo]
structure JoinJ (a b : List Int) (g o n i j : Nat) (W : World) : Prop where
  own : Own W g n (pairTo a b i j)
  var : Blk W o #[.slice (some ⟨g, 0, none⟩) (pairTo a b i j).length n] 22
theorem JoinJ.below {a b : List Int} {g o n i j : Nat} {W W' : World} (h : JoinJ a b g o n i j W) (hb : Below W.heap.size W W') : JoinJ a b g o n i j W' := ⟨h.own.below hb, h.var.below hb h.var.lt⟩
theorem ret_own {l : List Int} {w w' : World} {g n cap : Nat} {er : Int} (h : Own w' g cap l) (hn : n = l.length) (hb : Below w.heap.size w w') : RetSlE l er w (.returned (.tuple #[.slice (some ⟨g, 0, none⟩) n cap, .int .i64 er])) w' :=
  ⟨_, _, by rw [hn], h.sl, (fun e => nomatch e), hb⟩
set_option maxRecDepth 100000 in
set_option maxHeartbeats 4000000 in
theorem joinF_any (A A2 : Option Addr) (c c2 : Nat) (a b : List Int) (w : World) (hm : a.length ≤ 1000000) (hm2 : b.length ≤ 1000000) (hr : Sl intCell 1 w w.heap.size A a) (hr2 : Sl intCell 1 w w.heap.size A2 b) :
    Calls Try.prog 51 #[.slice A a.length c, .slice A2 b.length c2] w (RetSlE (joinR a b).1 (joinR a b).2 w) := by
  obtain ⟨i0, hi, iz0, iz1, iz2⟩ := info_parts infoInt
  have HF := Lib.hid (fun W (hW : Below w.heap.size w W) => fits_any A A2 c c2 a b (a.length * b.length) W (by omega) (by omega) ((hr.below hW).more hW.size) ((hr2.below hW).more hW.size))
  have hnn : (a.length : Int) * (b.length : Int) = ((a.length * b.length : Nat) : Int) := mulNN _ _
  have hbig : a.length * b.length ≤ 1000000 * 1000000 := Nat.mul_le_mul hm hm2
  have m0 : (0 : Int) ≤ (a.length : Int) * (b.length : Int) := by rw [hnn]; omega
  have m1 : (a.length : Int) * (b.length : Int) ≤ 1000000000000 := by rw [hnn]; omega
  by_cases he : fitsW a b (a.length * b.length) = 0
  · have HT : Hid (joinR a b = (pairs a b, 0)) := (by unfold joinR; rw [if_pos he] : joinR a b = _)
    obtain ⟨o1, o2, h46, hs⟩ := fitsW_zero.1 he
    have hP : ∀ x ∈ a, ∀ y ∈ b, 0 ≤ x * y ∧ x * y ≤ 1000000000000000 := fitsPair o1.nn o2.nn hs
    have HR := Lib.hid hr; have HR2 := Lib.hid hr2; have HP := Lib.hid hP
    rw [he] at HF
    obtain ⟨n, hn⟩ : ∃ n, n = a.length * b.length := ⟨_, rfl⟩
    have hn4 : n ≤ 4096 := by rw [hnn, ← hn] at h46; omega
    have HN : Hid ((a.length : Int) * (b.length : Int) = (n : Int)) := (by rw [hnn, ← hn] : (a.length : Int) * (b.length : Int) = (n : Int))
    have HNN := Lib.hid hn
    clear hr hr2 he o1 o2 hP hnn hn h46 hs hbig
    go_enter Try.func51, Try.ntmps51
    go_wp2_with (first | (go_at_call 71; refine (HF.out _ (by (repeat (first | exact Below.refl _ _ | assumption | (refine Below.alloc ?_ (by first | omega | (simp; omega) | (simp; done)) _) | (refine Below.setCell ?_ (by first | omega | (simp; omega) | (simp; done)) _) | (refine Below.drew ?_) | (refine belowN ?_ _) | (refine Below.trans ?_ (Below.mono ‹Below _ _ _› (by first | omega | (simp; omega) | (simp; done)))))))).mono ?_; rintro _ w1 ⟨rfl, hb1⟩; have gP : Blk w1 w.heap.size #[.slice A a.length c, .slice A2 b.length c2] 89 := (Blk.at_ rfl).below hb1 (by simp); have hw1 : Below w.heap.size w w1 := bl3 (Below.refl _ _) hb1) |
      (at_make; refine wpList_make_own _ rfl _ _ 22 rfl 0 3 i0 (.int .i64 0) 1 uInts hi iz0 iz1 .i64 .i64 _ n rfl rfl HN.out (by rw [iz2]; omega) (by unfold maxLen; omega) (by omega) ?_; intro w2 how hgr; have hb2 : Below w1.heap.size w1 w2 := (Below.refl _ _).grown hgr (Nat.le_refl _) (fun g hg => nomatch hg); have hO2 : Own w2 w1.heap.size n [] := how; have HO2 := Lib.hid hO2; have gP2 := gP.below hb2 gP.lt; have p0 := gP2.cell 0; have p1 := gP2.cell 1; simp at p0 p1; have hz1 := gP2.lt; have hw2 := bl2 hw1 hb2; clear how hgr hO2))
    obtain ⟨g, hg⟩ : ∃ g, g = w1.heap.size := ⟨_, rfl⟩
    rw [← hg] at HO2
    have hgw : w.heap.size < g := by have := gP.lt; omega
    have hg2 := HO2.out.lt_
    have hW3 : Below w.heap.size w (w2.alloc (.cells #[.slice (some ⟨g, 0, none⟩) 0 n] 22)) := hw2.alloc hw2.size _
    rw [← hg]
    clear hg hb1 hb2 gP gP2
    refine (each_any 88 #[.pointer (some ⟨w2.heap.size, 0, none⟩)] A A2 c c2 a b _ w.heap.size (JoinJ a b g w2.heap.size n) hW3.size ent_joinc hm hm2 (HR.out.below hW3) (HR2.out.below hW3) HP.out (fun i j W W' h hb => h.below hb) ?_ ?_ ?_).mono ?_
    · intro i W hia h
      exact ⟨by rw [pairTo_row a b hia]; exact h.own, by rw [pairTo_row a b hia]; exact h.var⟩
    · exact ⟨by rw [pairTo_zero]; exact HO2.out.below ((Below.refl _ _).alloc (Nat.le_refl _) _), by rw [pairTo_zero]; exact Blk.new _ _ _⟩
    · intro i j hi' hj' W hbW hJ hsz
      have hl := pairTo_len a b (Nat.le_of_lt hi') (Nat.le_of_lt hj')
      have hroom : (pairTo a b i j).length + 1 ≤ n := by
        have h1 : (i + 1) * b.length ≤ a.length * b.length := Nat.mul_le_mul_right _ (by omega)
        rw [Nat.add_mul] at h1
        have := HNN.out
        omega
      have hnx : pairTo a b i (j + 1) = pairTo a b i j ++ [a[i] * b[j]] := by rw [pairTo_next a b hj']; simp [hi']
      refine (joinc_any i j g w2.heap.size n _ _ W hJ.own hJ.var hroom (by omega)).mono ?_
      rintro e W' ⟨hv, W1, hgr, hown, rfl⟩
      have hal : Below W.heap.size W (W.alloc (.cells #[.int .i64 (a[i] * b[j])] 3)) := (Below.refl _ _).alloc (Nat.le_refl _) _
      have hwW : w.heap.size ≤ W.heap.size := Nat.le_trans hw2.size (by have := hbW.size; simp at hsz; omega)
      refine ⟨hv, ⟨by rw [hnx]; exact hown.far _ (by show g ≠ w2.heap.size; omega) _, ?_⟩, ?_, ?_⟩
      · have gV := Blk.grown (hJ.var.alloc (.cells #[.int .i64 (a[i] * b[j])] 3)) hgr (by simp; omega)
        have := gV.set 0 (.slice (some ⟨g, 0, none⟩) ((pairTo a b i j).length + 1) n)
        rw [hnx]
        simpa using this
      · exact ((hal.mono hwW).grown hgr (by simp; omega) (fun k e => by cases e; omega)).setCell (by show w.heap.size ≤ w2.heap.size; exact hw2.size) _
      · intro k h1 h2
        simp at h1
        rw [Below.heap_setCell _ _ _ k (by show k ≠ w2.heap.size; omega), hgr.block k (by simp; omega) (by simp; omega), Below.heap_alloc _ _ _ h2]
    rintro _ w4 ⟨⟨v, rfl⟩, hJ, hb4⟩
    have o0 := hJ.var.cell 0
    simp at o0
    have HJ := Lib.hid hJ.own
    rw [pairTo_all] at HJ
    have HL : Hid ((pairTo a b a.length 0).length = (pairs a b).length) := (by rw [pairTo_all] : (pairTo a b a.length 0).length = _)
    clear hJ
    have hw4 : Below w.heap.size w w4 := hW3.trans hb4
    go_wp2
    go_ret2
    rw [HT.out]
    exact ret_own HJ.out HL.out hw4
  · have HT : Hid (joinR a b = ([], fitsW a b (a.length * b.length))) := (by unfold joinR; rw [if_neg he] : joinR a b = _)
    have hb : (fitsW a b (a.length * b.length) != 0) = true := by simpa using he
    obtain ⟨ev, hev⟩ : ∃ ev, ev = fitsW a b (a.length * b.length) := ⟨_, rfl⟩
    rw [← hev] at hb HT HF
    clear hr hr2 he hev hnn hbig
    go_enter Try.func51, Try.ntmps51
    go_wp2_with (go_at_call 71; refine (HF.out _ (by (repeat (first | exact Below.refl _ _ | assumption | (refine Below.alloc ?_ (by first | omega | (simp; omega) | (simp; done)) _) | (refine Below.setCell ?_ (by first | omega | (simp; omega) | (simp; done)) _) | (refine Below.drew ?_) | (refine belowN ?_ _) | (refine Below.trans ?_ (Below.mono ‹Below _ _ _› (by first | omega | (simp; omega) | (simp; done)))))))).mono ?_; rintro _ w1 ⟨rfl, hb1⟩)
    go_ret2
    rw [HT.out]
    exact retSlE_nil (bl3 (Below.refl _ _) hb1)
end Go.Proofs.Ytmfbiohdmhbkoaa

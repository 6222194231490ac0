/- odds: Sum. -/
import Derived.Test.YtmfbiohdmhbkoaaGi
namespace Go.Proofs.Ytmfbiohdmhbkoaa
open Go.RowKit

theorem ent_sumc : Ent 73 := ent_of Try.func73 (by kernel_rfl) rfl
set_option maxRecDepth 100000 in
set_option maxHeartbeats 1000000 in
theorem sumc_any (i j g ob n : Nat) (x : Int) (L : List Int) (W : World) (h1 : Arr W g L) (h2 : Blk W ob #[.slice (some ⟨g, 0, none⟩) n n] 22) (hn : n = L.length) (hi : i + j < n) (hn' : n ≤ 1000000) (hx : 0 ≤ x) (hL : ∀ y ∈ L, 0 ≤ y) (hb : L.getD (i + j) 0 + x ≤ 1000000000000000) :
    Calls Try.prog 73 (#[.int .i64 i, .int .i64 j, .int .i64 x] ++ #[.pointer (some ⟨ob, 0, none⟩)]) W fun e W' => (∃ v, e = .returned v) ∧ W' = W.setCell ⟨g, i + j, none⟩ (.int .i64 (L.getD (i + j) 0 + x)) := by
  have hl : i + j < L.length := by omega
  have c := h1.at_ hl
  have f := Blk.free h1 (i + j)
  have o0 := h2.cell 0
  simp at o0
  have y0 := hL _ (List.getElem_mem hl)
  have e : L.getD (i + j) 0 = L[i + j] := by simp [hl]
  rw [e] at hb ⊢
  obtain ⟨y, hy⟩ : ∃ y, y = L[i + j] := ⟨_, rfl⟩
  rw [← hy] at c hb y0 ⊢
  have k0 : (0 : Int) ≤ (i : Int) + (j : Int) := by omega
  have k1 : (i : Int) + (j : Int) < (n : Int) := by omega
  have k2 : ((i : Int) + (j : Int)).toNat = i + j := by omega
  clear h1 h2 e hy hL hn
  go_enter Try.func73, Try.ntmps73
  go_wp2
  go_end0
  exact ⟨⟨_, rfl⟩, rfl⟩
/-- the blocks of Sum: g the numbers, o the variable -/
structure SumJ (a b : List Int) (g o n i j : Nat) (W : World) : Prop where
  arr : Arr W g (rowTo (convTo a b i) (a.getD i 0) b i j)
  var : Blk W o #[.slice (some ⟨g, 0, none⟩) n n] 22
theorem SumJ.below {a b : List Int} {g o n i j : Nat} {W W' : World} (h : SumJ a b g o n i j W) (hb : Below W.heap.size W W') : SumJ a b g o n i j W' := ⟨h.arr.below hb (Blk.lt h.arr), h.var.below hb h.var.lt⟩
theorem conv_all {a b : List Int} : rowTo (convTo a b a.length) (a.getD a.length 0) b a.length 0 = conv a b := rfl
set_option maxRecDepth 100000 in
set_option maxHeartbeats 4000000 in
theorem sumF_any (A A2 : Option Addr) (c c2 : Nat) (a b : List Int) (w : World) (hm : a.length ≤ 1000000000) (hm2 : b.length ≤ 1000000000) (hr : Sl intCell 1 w w.heap.size A a) (hr2 : Sl intCell 1 w w.heap.size A2 b) :
    Calls Try.prog 29 #[.slice A a.length c, .slice A2 b.length c2] w (RetSlE (sumR a b).1 (sumR a b).2 w) := by
  obtain ⟨i0, hi, iz0, iz1, iz2⟩ := info_parts infoInt
  have HF := Lib.hid (fun W (hW : Below w.heap.size w W) => fits_any A A2 c c2 a b (a.length + b.length - 1) W hm hm2 ((hr.below hW).more hW.size) ((hr2.below hW).more hW.size))
  by_cases he : fitsW a b (a.length + b.length - 1) = 0
  · have HT : Hid (sumR a b = (conv a b, 0)) := (by unfold sumR; rw [if_pos he] : sumR a b = _)
    obtain ⟨o1, o2, h46, hs⟩ := fitsW_zero.1 he
    have la := o1.pos_len; have lb := o2.pos_len
    have lla := o1.len; have llb := o2.len
    have HR := Lib.hid hr; have HR2 := Lib.hid hr2; have HP := Lib.hid (fitsPair o1.nn o2.nn hs)
    have HB := Lib.hid (fun i j (h1 : i < a.length) (h2 : j ≤ b.length) => row_bd o1.nn o2.nn lb (i := i) (j := j) h1 h2)
    have HA := Lib.hid o1.nn; have HBN := Lib.hid o2.nn
    rw [he] at HF
    clear hr hr2 he o1 o2
    obtain ⟨n, hn⟩ : ∃ n, n = a.length + b.length - 1 := ⟨_, rfl⟩
    have hni : (a.length : Int) + (b.length : Int) - 1 = (n : Int) := by omega
    have HN := Lib.hid hni
    have HNN := Lib.hid hn
    clear hni hn
    go_enter Try.func29, Try.ntmps29
    go_wp2_with (first | (go_at_call 71; refine (HF.out _ (by (repeat (first | exact Below.refl _ _ | assumption | (refine Below.alloc ?_ (by first | omega | (simp; omega) | (simp; done)) _) | (refine Below.setCell ?_ (by first | omega | (simp; omega) | (simp; done)) _) | (refine Below.drew ?_) | (refine belowN ?_ _) | (refine Below.trans ?_ (Below.mono ‹Below _ _ _› (by first | omega | (simp; omega) | (simp; done)))))))).mono ?_; rintro _ w1 ⟨rfl, hb1⟩; have gP : Blk w1 w.heap.size #[.slice A a.length c, .slice A2 b.length c2] 89 := (Blk.at_ rfl).below hb1 (by simp); have hw1 : Below w.heap.size w w1 := bl3 (Below.refl _ _) hb1) |
      (at_make; refine wpList_make_arr _ rfl _ _ rfl i0 uInts hi iz0 iz1 iz2 .i64 .i64 _ _ n rfl rfl HN.out HN.out (by have := HNN.out; omega) ?_; intro w2 ha2 hb2))
    have hw2 : Below w.heap.size w w2 := bl2 hw1 hb2
    have gP2 := gP.below hb2 gP.lt
    have hz1 := gP.lt; have hz2 := gP2.lt
    obtain ⟨g, hg⟩ : ∃ g, g = w1.heap.size := ⟨_, rfl⟩
    rw [← hg] at ha2 ⊢
    have hgw : w.heap.size < g := by omega
    have p0 := gP2.cell 0; have p1 := gP2.cell 1
    simp at p0 p1
    have hg2 := ha2.lt_
    have HA2 := Lib.hid ha2
    clear ha2 hg hb2 hb1 gP
    refine Lib.hid ?_
    go_wp2_with fail
    have hW3 : Below w.heap.size w (w2.alloc (.cells #[.slice (some ⟨g, 0, none⟩) n n] 22)) := hw2.alloc hw2.size _
    refine (each_any 73 #[.pointer (some ⟨w2.heap.size, 0, none⟩)] A A2 c c2 a b _ w.heap.size (SumJ a b g w2.heap.size n) hW3.size ent_sumc (by omega) (by omega) (HR.out.below hW3) (HR2.out.below hW3) HP.out (fun i j W W' h hb => h.below hb) (fun i W _ h => ⟨h.arr, h.var⟩) ?_ ?_).mono ?_
    · exact ⟨by show Arr _ g (convTo a b 0); have h : convTo a b 0 = List.replicate n 0 := by rw [HNN.out]; rfl
                rw [h]; exact HA2.out.alloc _, Blk.new _ _ _⟩
    · intro i j hi' hj' W hbW hJ hsz
      have hL := rowTo_nn (x := a.getD i 0) (i := i) (convTo_nn HA.out HBN.out i) (by have := HA.out _ (List.getElem_mem hi'); simp [hi']; exact this) HBN.out j
      have hpos : i + j < (rowTo (convTo a b i) (a.getD i 0) b i j).length := by rw [rowTo_len, convTo_len]; omega
      have e1 : a.getD i 0 = a[i] := by simp [hi']
      have e2 : b.getD j 0 = b[j] := by simp [hj']
      have hx := HP.out a[i] (List.getElem_mem hi') b[j] (List.getElem_mem hj')
      have hnx : bump (rowTo (convTo a b i) (a.getD i 0) b i j) (i + j) (a[i] * b[j]) = rowTo (convTo a b i) (a.getD i 0) b i (j + 1) := by simp only [rowTo, e1, e2]
      have hbd := HB.out i (j + 1) hi' (by omega)
      have hmem : (rowTo (convTo a b i) (a.getD i 0) b i j).getD (i + j) 0 + a[i] * b[j] ∈ rowTo (convTo a b i) (a.getD i 0) b i (j + 1) := by
        rw [← hnx]; exact List.mem_set hpos _
      have hnn1 := rowTo_nn (x := a.getD i 0) (i := i) (convTo_nn HA.out HBN.out i) (by have := HA.out _ (List.getElem_mem hi'); simp [hi']; exact this) HBN.out (j + 1)
      obtain ⟨k, hk, hke⟩ := List.mem_iff_getElem.1 hmem
      have hle := le_sumL hnn1 hk
      have hlen : n = (rowTo (convTo a b i) (a.getD i 0) b i j).length := by rw [rowTo_len, convTo_len, HNN.out]
      refine (sumc_any i j g w2.heap.size n _ _ W hJ.arr hJ.var hlen (by omega) (by have := HNN.out; omega) hx.1 hL (by omega)).mono ?_
      rintro e W' ⟨hv, rfl⟩
      have hgs : g < w2.heap.size + 1 := by omega
      refine ⟨hv, ⟨by rw [← hnx]; exact hJ.arr.put _ _, hJ.var.far _ (by show w2.heap.size ≠ g; omega) _⟩, (Below.refl _ _).setCell (by show w.heap.size ≤ g; omega) _, fun k h1 h2 => Below.heap_setCell _ _ _ _ ?_⟩
      show k ≠ g
      simp at h1; omega
    rintro _ w4 ⟨⟨v, rfl⟩, hJ, hb4⟩
    have o0 := hJ.var.cell 0
    simp at o0
    have HJ := Lib.hid hJ.arr
    clear hJ
    have hw4 : Below w.heap.size w w4 := hW3.trans hb4
    go_wp2
    go_ret2
    rw [HT.out]
    exact RetSlE.of_arr HJ.out (by rw [← conv_all, rowTo_len, convTo_len]; exact HNN.out) hw4
  · have HT : Hid (sumR a b = ([], fitsW a b (a.length + b.length - 1))) := (by unfold sumR; rw [if_neg he] : sumR a b = _)
    have hb : (fitsW a b (a.length + b.length - 1) != 0) = true := by simpa using he
    obtain ⟨ev, hev⟩ : ∃ ev, ev = fitsW a b (a.length + b.length - 1) := ⟨_, rfl⟩
    rw [← hev] at hb HT HF
    clear hr hr2 he hev
    go_enter Try.func29, Try.ntmps29
    go_wp2_with (go_at_call 71; refine (HF.out _ (by (repeat (first | exact Below.refl _ _ | assumption | (refine Below.alloc ?_ (by first | omega | (simp; omega) | (simp; done)) _) | (refine Below.setCell ?_ (by first | omega | (simp; omega) | (simp; done)) _) | (refine Below.drew ?_) | (refine belowN ?_ _) | (refine Below.trans ?_ (Below.mono ‹Below _ _ _› (by first | omega | (simp; omega) | (simp; done)))))))).mono ?_; rintro _ w1 ⟨rfl, hb1⟩)
    go_ret2
    rw [HT.out]
    exact retSlE_nil (bl3 (Below.refl _ _) hb1)
end Go.Proofs.Ytmfbiohdmhbkoaa

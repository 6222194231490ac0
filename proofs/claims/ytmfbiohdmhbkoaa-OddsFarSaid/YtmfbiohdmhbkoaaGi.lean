/- odds: fits, Sum. -/
import Derived.Test.YtmfbiohdmhbkoaaGh
import Derived.Test.YtmfbiohdmhbkoaaPn
namespace Go.Proofs.Ytmfbiohdmhbkoaa
open Go.RowKit

theorem bl_ext {w W : World} (h : Below w.heap.size w W) (E : Grow W) : Below w.heap.size w (World.ext W E) := bl2 h E.h
theorem errsW_two (x y : LL) : errsW [x, y] = if errW x.l ≠ 0 then errW x.l else errW y.l := by
  simp only [errsW]
  split
  · rfl
  · split
    · rfl
    · rename_i h; exact (Classical.not_not.1 h).symm
abbrev tw2 (A A2 : Option Addr) (c c2 : Nat) (a b : List Int) : List LL := [⟨A, c, a⟩, ⟨A2, c2, b⟩]
set_option maxRecDepth 100000 in
/-- check of two lists that lie in a new block -/
theorem check2_any (A A2 : Option Addr) (c c2 : Nat) (a b : List Int) (W : World) (g : Nat) (h0 : g = W.heap.size) (hm : a.length ≤ 1000000000) (hm2 : b.length ≤ 1000000000) (hr : Sl intCell 1 W W.heap.size A a) (hr2 : Sl intCell 1 W W.heap.size A2 b) :
    Calls Try.prog 58 #[.slice (some ⟨g, 0, none⟩) 2 2] (W.alloc (.cells #[.slice A a.length c, .slice A2 b.length c2] 22)) fun e w' => e = .returned (.int .i64 (if errW a ≠ 0 then errW a else errW b)) ∧ Below W.heap.size W w' := by
  subst h0
  have hb : Below W.heap.size W (W.alloc (.cells #[.slice A a.length c, .slice A2 b.length c2] 22)) := (Below.refl _ _).alloc (Nat.le_refl _) _
  have h := checks_any (some ⟨W.heap.size, 0, none⟩) 2 (tw2 A A2 c c2 a b) (W.alloc (.cells #[.slice A a.length c, .slice A2 b.length c2] 22)) (by simp) (by simp [tw2]; omega)
    ⟨sl_one (Blk.new W _ _) rfl rfl, fun x hx => by
      simp only [tw2, List.mem_cons, List.not_mem_nil, or_false] at hx
      rcases hx with rfl | rfl
      · exact (hr.below hb).more hb.size
      · exact (hr2.below hb).more hb.size⟩
  rw [errsW_two] at h
  exact h.mono fun _ _ ⟨h1, h2⟩ => ⟨h1, h2 ▸ hb⟩
theorem smallB_true {a b : Int} (h : a * b ≤ 1000000000000000) : smallB a b = true := by simpa [smallB] using h
theorem smallB_false {a b : Int} (h : ¬ a * b ≤ 1000000000000000) : smallB a b = false := by simpa [smallB] using h
set_option maxRecDepth 100000 in
set_option maxHeartbeats 4000000 in
theorem fits_any (A A2 : Option Addr) (c c2 : Nat) (a b : List Int) (m : Int) (w : World) (hm : a.length ≤ 1000000000) (hm2 : b.length ≤ 1000000000) (hr : Sl intCell 1 w w.heap.size A a) (hr2 : Sl intCell 1 w w.heap.size A2 b) :
    Calls Try.prog 71 #[.agg #[.slice A a.length c, .slice A2 b.length c2], .int .i64 m] w fun e w' => e = .returned (.int .i64 (fitsW a b m)) ∧ Below w.heap.size w w' := by
  have HC := Lib.hid (fun W g (hW : Below w.heap.size w W) (h : g = W.heap.size) => check2_any A A2 c c2 a b W g h hm hm2 ((hr.below hW).more hW.size) ((hr2.below hW).more hW.size))
  by_cases he : (if errW a ≠ 0 then errW a else errW b) = 0
  · have he1 : errW a = 0 := by
      by_cases h : errW a = 0
      · exact h
      · rw [if_pos h] at he; exact he
    have he2 : errW b = 0 := by rw [if_neg (by simpa using he1)] at he; exact he
    have o1 := errW_zero.1 he1; have o2 := errW_zero.1 he2
    rw [he] at HC
    by_cases hmany : 4096 < m
    · have HT : Hid (fitsW a b m = 5) := (by unfold fitsW; rw [if_neg (by simpa using he1), if_neg (by simpa using he2), if_pos hmany] : fitsW a b m = _)
      clear hr hr2 he he1 he2 o1 o2
      go_enter Try.func71, Try.ntmps71
      go_wp2_with (go_at_call 58; refine (HC.out _ _ (by (repeat (first | exact Below.refl _ _ | assumption | (refine Below.alloc ?_ (by first | omega | (simp; omega) | (simp; done)) _) | (refine Below.setCell ?_ (by first | omega | (simp; omega) | (simp; done)) _) | (refine Below.drew ?_) | (refine belowN ?_ _) | (refine Below.trans ?_ (Below.mono ‹Below _ _ _› (by first | omega | (simp; omega) | (simp; done))))))) (by simp)).mono ?_; rintro _ w1 ⟨rfl, hb1⟩)
      go_ret
      exact ⟨ret_int HT.out.symm, bl3 (Below.refl _ _) hb1⟩
    · have HS1 := Lib.hid (fun W (hW : Below w.heap.size w W) => sum_any A c a W (by have := o1.len; omega) o1.nn (by have := o1.le; omega) ((hr.below hW).more hW.size))
      have HS2 := Lib.hid (fun W (hW : Below w.heap.size w W) => sum_any A2 c2 b W (by have := o2.len; omega) o2.nn (by have := o2.le; omega) ((hr2.below hW).more hW.size))
      have HSM := Lib.hid (fun W => small_any (sumL a) (sumL b) W (by have := o1.pos; omega) (by have := o2.pos; omega) (by have := o1.le; omega) (by have := o2.le; omega))
      have dm : decide (4096 < m) = false := by simpa using hmany
      have HT : Hid (fitsW a b m = if smallB (sumL a) (sumL b) then 0 else 10) := (by
        unfold fitsW; rw [if_neg (by simpa using he1), if_neg (by simpa using he2), if_neg hmany]
        by_cases h : sumL a * sumL b ≤ 1000000000000000
        · rw [if_pos h, smallB_true h]; rfl
        · rw [if_neg h, smallB_false h]; rfl : fitsW a b m = _)
      clear hr hr2 he he1 he2 o1 o2 hmany
      obtain ⟨v, hv⟩ : ∃ v, v = smallB (sumL a) (sumL b) := ⟨_, rfl⟩
      rw [← hv] at HT HSM
      clear hv
      cases v
      all_goals (
        go_enter Try.func71, Try.ntmps71
        go_wp2_with (go_at_call 58; refine (HC.out _ _ (by (repeat (first | exact Below.refl _ _ | assumption | (refine Below.alloc ?_ (by first | omega | (simp; omega) | (simp; done)) _) | (refine Below.setCell ?_ (by first | omega | (simp; omega) | (simp; done)) _) | (refine Below.drew ?_) | (refine belowN ?_ _) | (refine Below.trans ?_ (Below.mono ‹Below _ _ _› (by first | omega | (simp; omega) | (simp; done))))))) (by simp)).mono ?_; rintro _ w1 ⟨rfl, hb1⟩; have hw1 : Below w.heap.size w w1 := bl3 (Below.refl _ _) hb1; have gP : Blk w1 w.heap.size #[.slice A a.length c, .slice A2 b.length c2] 89 := (Blk.at_ rfl).below hb1 (by simp))
        have p0 := gP.cell 0; have p1 := gP.cell 1
        simp at p0 p1
        (refine wp_region_ext (by kernel_rfl) (by kernel_rfl) ?_; (repeat (go_big_quiet_step((first | (go_at_call 57; with_reducible exact Calls.ext_same (HS1.out _ (bl_ext hw1 _))) | (go_at_call 57; with_reducible exact Calls.ext_same (HS2.out _ (bl_ext hw1 _))) | (go_at_call 56; exact Calls.ext_same (HSM.out _)))))); with_reducible refine wpQuiet_nil ?_; intro w9 hw9; have hb9 := ext_below hw9; clear hw9)
        have hw9 := bl2 hw1 hb9
        go_wp2
        go_ret
        exact ⟨ret_int (by rw [HT.out]; rfl), hw9⟩)
  · have HT : Hid (fitsW a b m = (if errW a ≠ 0 then errW a else errW b)) := (by
      unfold fitsW
      by_cases h : errW a = 0
      · have h' : ¬ errW a ≠ 0 := fun hh => hh h
        rw [if_neg h'] at he ⊢
        rw [if_neg h', if_pos he]
      · rw [if_pos h, if_pos h] : fitsW a b m = _)
    have hb : ((if errW a ≠ 0 then errW a else errW b) != 0) = true := by simpa using he
    obtain ⟨ev, hev⟩ : ∃ ev, ev = (if errW a ≠ 0 then errW a else errW b) := ⟨_, rfl⟩
    rw [← hev] at HC hb HT
    clear hr hr2 he hev
    go_enter Try.func71, Try.ntmps71
    go_wp2_with (go_at_call 58; refine (HC.out _ _ (by (repeat (first | exact Below.refl _ _ | assumption | (refine Below.alloc ?_ (by first | omega | (simp; omega) | (simp; done)) _) | (refine Below.setCell ?_ (by first | omega | (simp; omega) | (simp; done)) _) | (refine Below.drew ?_) | (refine belowN ?_ _) | (refine Below.trans ?_ (Below.mono ‹Below _ _ _› (by first | omega | (simp; omega) | (simp; done))))))) (by simp)).mono ?_; rintro _ w1 ⟨rfl, hb1⟩)
    go_ret
    exact ⟨ret_int HT.out.symm, bl3 (Below.refl _ _) hb1⟩
end Go.Proofs.Ytmfbiohdmhbkoaa

/- odds: the law's helper known returns true. -/
import Derived.Test.YtmfbiohdmhbkoaaHc
import Derived.Test.YtmfbiohdmhbkoaaHb
import Derived.Test.YtmfbiohdmhbkoaaGy
import Derived.Test.YtmfbiohdmhbkoaaGq
import Derived.Test.YtmfbiohdmhbkoaaGk
import Derived.Test.YtmfbiohdmhbkoaaGm
import Derived.Test.YtmfbiohdmhbkoaaGp
namespace Go.Proofs.Ytmfbiohdmhbkoaa
open Go.RowKit

theorem blk_sl2 {W : World} {b : Nat} {x y : Int} (h : Blk W b #[.int .i64 x, .int .i64 y] 3) : Sl intCell 1 W W.heap.size (some ⟨b, 0, none⟩) [x, y] := sl_one h rfl rfl
theorem blk_sl3 {W : World} {b : Nat} {x y z : Int} (h : Blk W b #[.int .i64 x, .int .i64 y, .int .i64 z] 3) : Sl intCell 1 W W.heap.size (some ⟨b, 0, none⟩) [x, y, z] := sl_one h rfl rfl
theorem blk_sl4 {W : World} {b : Nat} {x y z u : Int} (h : Blk W b #[.int .i64 x, .int .i64 y, .int .i64 z, .int .i64 u] 3) : Sl intCell 1 W W.heap.size (some ⟨b, 0, none⟩) [x, y, z, u] := sl_one h rfl rfl
theorem k_of (W : World) (b1 b2 : Nat) (h1 : Blk W b1 #[.int .i64 2, .int .i64 1, .int .i64 1] 3) (h2 : Blk W b2 #[.int .i64 1, .int .i64 2] 3) :
    Calls Try.prog 34 #[.slice (some ⟨b1, 0, none⟩) 3 3, .slice (some ⟨b2, 0, none⟩) 2 2] W (RetC (1, 2, 0) W) := by
  have h := of_any (some ⟨b1, 0, none⟩) (some ⟨b2, 0, none⟩) 3 2 [2, 1, 1] [1, 2] W (by decide) (by decide) (blk_sl3 h1) (blk_sl2 h2)
  rw [show ofR [2, 1, 1] [1, 2] = (1, 2, 0) by kernel_rfl] at h
  exact h
theorem k_rep (W : World) (b1 : Nat) (h1 : Blk W b1 #[.int .i64 1, .int .i64 1] 3) :
    Calls Try.prog 17 #[.slice (some ⟨b1, 0, none⟩) 2 2, .int .i64 3] W (RetSlE [1, 3, 3, 1] 0 W) := by
  have h := repeat_any (some ⟨b1, 0, none⟩) 2 [1, 1] 3 W (by decide) (fun e => by cases e) (blk_sl2 h1)
  rw [show repR [1, 1] 3 = ([1, 3, 3, 1], 0) by kernel_rfl] at h
  exact h
theorem k_mix (W : World) (b0 b1 b2 b3 : Nat) (h0 : Blk W b0 #[.int .i64 1, .int .i64 1] 3) (h1 : Blk W b1 #[.int .i64 1, .int .i64 0] 3) (h2 : Blk W b2 #[.int .i64 1, .int .i64 2] 3) (h3 : Blk W b3 #[.slice (some ⟨b1, 0, none⟩) 2 2, .slice (some ⟨b2, 0, none⟩) 2 2] 22) :
    Calls Try.prog 21 #[.slice (some ⟨b0, 0, none⟩) 2 2, .slice (some ⟨b3, 0, none⟩) 2 2] W (RetSlE [2, 1] 0 W) := by
  have hl : Lists W W.heap.size (some ⟨b3, 0, none⟩) [⟨some ⟨b1, 0, none⟩, 2, [1, 0]⟩, ⟨some ⟨b2, 0, none⟩, 2, [1, 2]⟩] := by
    refine ⟨sl_one h3 rfl rfl, fun x hx => ?_⟩
    simp only [List.mem_cons, List.not_mem_nil, or_false] at hx
    rcases hx with rfl | rfl
    · exact blk_sl2 h1
    · exact blk_sl2 h2
  have h := mix_any (some ⟨b0, 0, none⟩) (some ⟨b3, 0, none⟩) 2 2 [1, 1] [⟨some ⟨b1, 0, none⟩, 2, [1, 0]⟩, ⟨some ⟨b2, 0, none⟩, 2, [1, 2]⟩] W (by simp) (by simp) (fun x hx => by
    simp only [List.mem_cons, List.not_mem_nil, or_false] at hx
    rcases hx with rfl | rfl <;> simp) (blk_sl2 h0) hl
  rw [show errsW [⟨some ⟨b1, 0, none⟩, 2, [1, 0]⟩, ⟨some ⟨b2, 0, none⟩, 2, [1, 2]⟩] = 0 from rfl, show plL [⟨some ⟨b1, 0, none⟩, 2, [1, 0]⟩, ⟨some ⟨b2, 0, none⟩, 2, [1, 2]⟩] = [[1, 0], [1, 2]] from rfl, show mixR [1, 1] [[1, 0], [1, 2]] 0 = ([2, 1], 0) by kernel_rfl] at h
  exact h
theorem k_ap (W : World) (b1 b2 : Nat) (h1 : Blk W b1 #[.int .i64 1, .int .i64 1] 3) (h2 : Blk W b2 #[.int .i64 3, .int .i64 1] 3) :
    Calls Try.prog 52 #[.slice (some ⟨b1, 0, none⟩) 2 2, .slice (some ⟨b2, 0, none⟩) 2 2] W (RetC (1, 4, 0) W) := by
  have h := apart_any (some ⟨b1, 0, none⟩) (some ⟨b2, 0, none⟩) 2 2 [1, 1] [3, 1] W (by decide) (by decide) (blk_sl2 h1) (blk_sl2 h2)
  rw [show apartR [1, 1] [3, 1] = (1, 4, 0) by kernel_rfl] at h
  exact h
theorem k_fair (W : World) (b1 : Nat) (h1 : Blk W b1 #[.int .i64 5, .int .i64 2] 3) :
    Calls Try.prog 23 #[.int .i64 6, .int .i64 4, .slice (some ⟨b1, 0, none⟩) 2 2] W (Ret3 (0, 2, 0) W) := by
  have h := fair_any (some ⟨b1, 0, none⟩) 2 [5, 2] 6 4 W (by decide) (blk_sl2 h1)
  rw [show fairR 6 4 [5, 2] = (0, 2, 0) by kernel_rfl] at h
  exact h
theorem k_pick (W : World) (b1 : Nat) (h1 : Blk W b1 #[.int .i64 2, .int .i64 0, .int .i64 3] 3) :
    Calls Try.prog 26 #[.slice (some ⟨b1, 0, none⟩) 3 3, .int .i64 2] W (Ret2 2 0 W) := by
  have h := pick_any (some ⟨b1, 0, none⟩) 3 [2, 0, 3] 2 W (by decide) (blk_sl3 h1)
  rw [show pickR [2, 0, 3] 2 = (2, 0) by kernel_rfl] at h
  exact h
theorem k_either (W : World) : Calls Try.prog 44 #[.agg #[.int .i64 1, .int .i64 2], .agg #[.int .i64 1, .int .i64 6]] W (RetC (2, 3, 0) W) := by
  have h := either_any ⟨1, 2⟩ ⟨1, 6⟩ W
  rw [show eitherR ⟨1, 2⟩ ⟨1, 6⟩ = (2, 3, 0) by kernel_rfl] at h
  exact h
theorem k_eq4 (W : World) (A : Option Addr) (c b : Nat) (h : Sl intCell 1 W W.heap.size A [1, 3, 3, 1]) (h1 : Blk W b #[.int .i64 1, .int .i64 3, .int .i64 3, .int .i64 1] 3) :
    Calls Try.prog 20 #[.slice A 4 c, .slice (some ⟨b, 0, none⟩) 4 4] W fun e W' => e = .returned (.bool true) ∧ Below W.heap.size W W' :=
  requal_any A (some ⟨b, 0, none⟩) c 4 [1, 3, 3, 1] [1, 3, 3, 1] W (by decide) h (blk_sl4 h1)
theorem k_eq2 (W : World) (A : Option Addr) (c b : Nat) (h : Sl intCell 1 W W.heap.size A [2, 1]) (h1 : Blk W b #[.int .i64 2, .int .i64 1] 3) :
    Calls Try.prog 20 #[.slice A 2 c, .slice (some ⟨b, 0, none⟩) 2 2] W fun e W' => e = .returned (.bool true) ∧ Below W.heap.size W W' :=
  requal_any A (some ⟨b, 0, none⟩) c 2 [2, 1] [2, 1] W (by decide) h (blk_sl2 h1)
end Go.Proofs.Ytmfbiohdmhbkoaa

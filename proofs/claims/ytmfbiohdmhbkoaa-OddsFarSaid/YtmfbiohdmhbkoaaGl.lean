/- odds: settle. -/
import Derived.Test.YtmfbiohdmhbkoaaGf
import Derived.BigRegion
namespace Go.Proofs.Ytmfbiohdmhbkoaa
open Go.RowKit

/-- nothing but block b has turned -/
structure Turned (b : Nat) (W W' : World) : Prop where
  low : Below b W W'
  up : ∀ k, k ≠ b → k < W.heap.size → W'.heap[k]? = W.heap[k]?
  size : W'.heap.size = W.heap.size
theorem two_set {b : Nat} {a c : Value} {W : World} (g : Blk W b #[a, c] 82) (x y : Int) {n : Nat} :
    Below b W (((W.drewN n).setCell ⟨b, 0, none⟩ (.int .i64 x)).setCell ⟨b, 1, none⟩ (.int .i64 y)) ∧ Blk (((W.drewN n).setCell ⟨b, 0, none⟩ (.int .i64 x)).setCell ⟨b, 1, none⟩ (.int .i64 y)) b #[.int .i64 x, .int .i64 y] 82 ∧
      Turned b W (((W.drewN n).setCell ⟨b, 0, none⟩ (.int .i64 x)).setCell ⟨b, 1, none⟩ (.int .i64 y)) := by
  have g' : Blk (W.drewN n) b #[a, c] 82 := g
  have h1 := (g'.set 0 (.int .i64 x)).set 1 (.int .i64 y)
  simp at h1
  have hb : Below b W (((W.drewN n).setCell ⟨b, 0, none⟩ (.int .i64 x)).setCell ⟨b, 1, none⟩ (.int .i64 y)) := ((belowN (Below.refl _ _) n).setCell (p := ⟨b, 0, none⟩) (Nat.le_refl _) _).setCell (p := ⟨b, 1, none⟩) (Nat.le_refl _) _
  exact ⟨hb, h1, hb, fun k hk _ => (Below.heap_setCell _ _ _ _ hk).trans (Below.heap_setCell _ _ _ _ hk), by simp⟩
set_option maxRecDepth 100000 in
set_option maxHeartbeats 4000000 in
theorem settle_yes (b : Nat) (size value m : Int) (W : World) (g : Blk W b #[.int .i64 size, .int .i64 value] 82) (hm : 1 ≤ m) (hm' : m ≤ 1000000) (h0 : 0 ≤ value) (h1 : value < size) (h2 : size ≤ 1000000000000) (hlt : value < size - size % m) :
    Calls Try.prog 67 #[.pointer (some ⟨b, 0, none⟩), .int .i64 m] W fun e W' => e = .returned (.tuple #[.int .i64 (value % m), .bool true]) ∧ Below W.heap.size W W' := by
  have c0 := g.cell 0; have c1 := g.cell 1
  simp at c0 c1
  have r0 := Int.emod_nonneg size (show m ≠ 0 by omega)
  have r1 := Int.emod_lt_of_pos size (show 0 < m by omega)
  have hne : (m == 0) = false := by simp; omega
  have hwr : IntKind.i64.wrap (size - size % m) = size - size % m := IntWalk.i64_in _ ⟨by omega, by omega⟩
  clear g
  go_enter Try.func67, Try.ntmps67
  go_wp2
  go_quiet (fail)
  go_wp2
  go_ret2
  exact ⟨rfl, belowN (Below.refl _ _) _⟩
set_option maxRecDepth 100000 in
set_option maxHeartbeats 4000000 in
theorem settle_no (b : Nat) (size value m : Int) (W : World) (g : Blk W b #[.int .i64 size, .int .i64 value] 82) (hm : 1 ≤ m) (hm' : m ≤ 1000000) (h0 : 0 ≤ value) (h1 : value < size) (h2 : size ≤ 1000000000000) (hlt : ¬ value < size - size % m) :
    Calls Try.prog 67 #[.pointer (some ⟨b, 0, none⟩), .int .i64 m] W fun e W' => e = .returned (.tuple #[.int .i64 0, .bool false]) ∧ Below b W W' ∧ Blk W' b #[.int .i64 (size % m), .int .i64 (value - (size - size % m))] 82 ∧ Turned b W W' := by
  have c0 := g.cell 0; have c1 := g.cell 1; have f0 := g.free 0; have f1 := g.free 1
  simp at c0 c1
  have hb := g.lt
  have r0 := Int.emod_nonneg size (show m ≠ 0 by omega)
  have r1 := Int.emod_lt_of_pos size (show 0 < m by omega)
  have hne : (m == 0) = false := by simp; omega
  have hd : decide (value < size - size % m) = false := by simpa using hlt
  have hle : size - size % m ≤ value := by omega
  have hwr : IntKind.i64.wrap (size - size % m) = size - size % m := IntWalk.i64_in _ ⟨by omega, by omega⟩
  go_enter Try.func67, Try.ntmps67
  go_wp2
  go_quiet (fail)
  go_wp2
  go_region
  all_goals (
    go_wp2
    go_ret2
    refine ⟨rfl, ?_⟩
    rw [show size - (size - size % m) = size % m by omega]
    exact two_set g _ _)
end Go.Proofs.Ytmfbiohdmhbkoaa

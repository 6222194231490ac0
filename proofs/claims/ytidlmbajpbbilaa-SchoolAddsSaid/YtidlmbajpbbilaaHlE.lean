/- Helpers of the laws: known. -/
import Derived.Test.YtidlmbajpbbilaaHlD
namespace Go.Proofs.Ytidlmbajpbbilaa
open Go.RowKit

theorem small_read (ra : Option Addr) (rc : Nat) (A0 : Option Addr) (c0 : Nat) (A1 : Option Addr) (c1 : Nat) (A2 : Option Addr) (c2 : Nat) (A3 : Option Addr) (c3 : Nat) : readR (smS ra rc A0 c0 A1 c1 A2 c2 A3 c3) [0, 2] 0 = (3, [0, 2], [0, 2], 0) := by kernel_rfl
theorem small_count (ra : Option Addr) (rc : Nat) (A0 : Option Addr) (c0 : Nat) (A1 : Option Addr) (c1 : Nat) (A2 : Option Addr) (c2 : Nat) (A3 : Option Addr) (c3 : Nat) : countR (smS ra rc A0 c0 A1 c1 A2 c2 A3 c3) 0 [7, 7] = (9, 2, 2, [2, 3, 0], 0) := by kernel_rfl
theorem small_idle (ra : Option Addr) (rc : Nat) (A0 : Option Addr) (c0 : Nat) (A1 : Option Addr) (c1 : Nat) (A2 : Option Addr) (c2 : Nat) (A3 : Option Addr) (c3 : Nat) : idleR (smS ra rc A0 c0 A1 c1 A2 c2 A3 c3) = ([], 0) := by kernel_rfl
theorem small_keeps (ra : Option Addr) (rc : Nat) (A0 : Option Addr) (c0 : Nat) (A1 : Option Addr) (c1 : Nat) (A2 : Option Addr) (c2 : Nat) (A3 : Option Addr) (c3 : Nat) (a b : Option Addr) (c d : Nat) : keepsR (smS ra rc A0 c0 A1 c1 A2 c2 A3 c3) [⟨0, a, c, [7, 3], false, true⟩, ⟨0, b, d, [7, 3], true, false⟩] = (1, 6, 0) := by kernel_rfl
theorem small_gloss (ra : Option Addr) (rc : Nat) (A0 : Option Addr) (c0 : Nat) (A1 : Option Addr) (c1 : Nat) (A2 : Option Addr) (c2 : Nat) (A3 : Option Addr) (c3 : Nat) (a b : Value) : glossR (smS ra rc A0 c0 A1 c1 A2 c2 A3 c3) 0 [⟨a, [⟨1, 0, 0, 3⟩], 0⟩, ⟨b, [⟨1, 0, 0, 4⟩], 1⟩] = (0, 0, 3, 0) := by kernel_rfl
end Go.Proofs.Ytidlmbajpbbilaa

/- The rows' frame: bytes opened. -/
import Derived.Test.YtiikkcifdhcejaaFk
import Derived.Test.YtiikkcifdhcejaaLd
namespace Go.Proofs.Ytiikkcifdhcejaa
open Go.RowKit Go.ChangeShapes Go.WideShapes Go.ChangeAt Go.Deep

theorem uBytes : Try.prog.underlying 53 = some (.slice 5) := by kernel_rfl
section
variable {H : Type} {enc : TypeId × Value → H} {w : World} {base : Nat} {spare : Nat → Bool} {held : Bool}
set_option maxRecDepth 100000 in
theorem arg_bytes {W : World} {v : Value} {d : DataW H} {p : List MemPlace} {b0 : Nat} (hv : Value.okWide Try.prog W .any b0 53 v) (h : DataW.Trod enc Try.prog W 0 (fun _ => true) true 53 v d p) : ∃ A c l, v = .slice A l.length c ∧ Sl byteCell 1 W W.heap.size A l ∧ (A = none → c = 0) ∧ ∀ x ∈ l, 0 ≤ x ∧ x < 256 := by
  obtain ⟨fuel, hf⟩ := h
  obtain ⟨A, c, l, h1, h2, h3, h4⟩ := open_sl byteCell 1 (by omega) (fun _ => rfl) (fun x : Int => 0 ≤ x ∧ x < 256) uBytes (by kernel_rfl) (fun n cs' y hy _ => by
    obtain ⟨k, rfl, _, hw⟩ := DataW.trod_int (show Try.prog.underlying _ = some (.int .u8) by kernel_rfl) hy
    exact ⟨k, u8_wf hw, rfl⟩) hf
  refine ⟨A, c, l, ?_, h2, h3, h4⟩
  simp only [Value.okWide, uBytes, Cell.okWide] at hv
  cases v <;> simp_all [Value.cells, Cell.ok]
end
end Go.Proofs.Ytiikkcifdhcejaa

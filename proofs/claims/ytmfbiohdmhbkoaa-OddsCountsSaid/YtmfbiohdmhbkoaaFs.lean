/- The rows' frame: two bytes opened. -/
import Derived.Test.YtmfbiohdmhbkoaaFr
namespace Go.Proofs.Ytmfbiohdmhbkoaa
open Go.RowKit Go.ChangeShapes Go.WideShapes Go.ChangeAt Go.Deep

section
variable {H : Type} {enc : TypeId × Value → H}
set_option maxRecDepth 100000 in
theorem arg_pair8 {W : World} {v : Value} {d : DataW H} {p : List MemPlace} {b0 : Nat} (hv : Value.okWide Try.prog W .any b0 44 v) (h : DataW.Trod enc Try.prog W 0 (fun _ => true) true 44 v d p) : ∃ a b : Int, v = .agg #[.int .u8 a, .int .u8 b] ∧ (0 ≤ a ∧ a < 256) ∧ 0 ≤ b ∧ b < 256 := by
  have hu : Try.prog.underlying 44 = some (.array 2 5) := by kernel_rfl
  have hC : Try.prog.cellsOf 44 = 2 := by kernel_rfl
  have hC1 : Try.prog.cellsOf 5 = 1 := by kernel_rfl
  obtain ⟨cs, rfl, hsz⟩ : ∃ cs, v = .agg cs ∧ cs.size = Try.prog.cellsOf 44 := by
    simp only [Value.okWide, hu] at hv
    obtain ⟨cs, h1, h2, _⟩ := hv
    exact ⟨cs, h1, h2⟩
  obtain ⟨fuel, hf⟩ := h
  obtain ⟨xs, m, _, _, hl, hxl, hi⟩ := DataW.trod_array hu hf
  obtain ⟨l⟩ := cs
  match l, hsz.trans hC with
  | [c0, c1], _ =>
    have t0 := hi 0 (by omega); have t1 := hi 1 (by omega)
    rw [hC1, List.getElem?_eq_getElem (by omega)] at t0 t1
    simp [Value.cells] at t0 t1
    obtain ⟨a, ha, _, wa⟩ := DataW.trod_int (show Try.prog.underlying _ = some (.int .u8) by kernel_rfl) t0
    obtain ⟨b, hb, _, wb⟩ := DataW.trod_int (show Try.prog.underlying _ = some (.int .u8) by kernel_rfl) t1
    simp at ha hb
    exact ⟨a, b, by rw [ha, hb], u8_wf wa, u8_wf wb⟩
end
end Go.Proofs.Ytmfbiohdmhbkoaa

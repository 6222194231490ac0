/- The rows' frame: Mapped, Third opened. -/
import Derived.Test.YtmfbiohdmhbkoaaFr
namespace Go.Proofs.Ytmfbiohdmhbkoaa
open Go.RowKit Go.ChangeShapes Go.WideShapes Go.ChangeAt Go.Deep

theorem u32_wf {n : Int} (h : (Lit.int .u32 n).wf = true) : 0 ≤ n ∧ n < 4294967296 := by
  simp only [Lit.wf, Bool.and_eq_true, decide_eq_true_eq] at h
  have h1 : IntKind.u32.min = 0 := by decide
  have h2 : IntKind.u32.max = 4294967295 := by decide
  rw [h1, h2] at h; omega
section
variable {H : Type} {enc : TypeId × Value → H}
set_option maxRecDepth 100000 in
theorem arg_mapped {W : World} {v : Value} {d : DataW H} {p : List MemPlace} {b0 : Nat} (hv : Value.okWide Try.prog W .any b0 70 v) (h : DataW.Trod enc Try.prog W 0 (fun _ => true) true 70 v d p) :
    ∃ (a : Nat) (A : Option Addr) (c : Nat) (l : List Int), v = .agg #[.int .u8 a, .slice A l.length c] ∧ a < 256 ∧ Sl intCell 1 W W.heap.size A l ∧ (A = none → c = 0) := by
  obtain ⟨cs, rfl, hsz⟩ := okWide_struct Try.underlying70 hv
  obtain ⟨fuel, hf0⟩ := h
  have hC : Try.prog.cellsOf 70 = 2 := by kernel_rfl
  have hl : (Value.agg cs).cells.toList.length = 2 := by simp [Value.cells]; omega
  obtain ⟨m, hf⟩ := struct_cells Try.underlying70 (by kernel_rfl) hl hf0
  obtain ⟨v0, z0, c0, t0⟩ := hf 0 _ rfl
  obtain ⟨v1, z1, c1, t1⟩ := hf 1 _ rfl
  obtain ⟨a0, e0, _, w0⟩ := DataW.trod_int (show Try.prog.underlying _ = some (.int .u8) by kernel_rfl) t0
  obtain ⟨A1, d1, l1, e1, s1, n1⟩ := open_ints uInts (by kernel_rfl) (by kernel_rfl) t1
  simp only [List.cons.injEq, and_true] at e0 e1
  subst e0 e1
  obtain ⟨w1, w2⟩ := u8_wf w0
  obtain ⟨a, rfl⟩ := Int.eq_ofNat_of_zero_le w1
  refine ⟨a, A1, d1, l1, ?_, by omega, s1, n1⟩
  simp only [Value.cells] at hl c0 c1
  obtain ⟨l⟩ := cs
  match l, hl with
  | [x0, x1], _ =>
    simp at c0 c1
    simp [c0, c1]
set_option maxRecDepth 100000 in
theorem arg_third {W : World} {v : Value} {d : DataW H} {p : List MemPlace} {b0 : Nat} (hv : Value.okWide Try.prog W .any b0 66 v) (h : DataW.Trod enc Try.prog W 0 (fun _ => true) true 66 v d p) :
    ∃ (A : Option Addr) (c : Nat) (l : List Int) (a : Nat) (A' : Option Addr) (c' : Nat) (l' : List Int), v = .agg #[.slice A l.length c, .int .u32 a, .slice A' l'.length c'] ∧ a < 4294967296 ∧ (Sl intCell 1 W W.heap.size A l ∧ (A = none → c = 0)) ∧ Sl intCell 1 W W.heap.size A' l' ∧ (A' = none → c' = 0) := by
  obtain ⟨cs, rfl, hsz⟩ := okWide_struct Try.underlying66 hv
  obtain ⟨fuel, hf0⟩ := h
  have hC : Try.prog.cellsOf 66 = 3 := by kernel_rfl
  have hl : (Value.agg cs).cells.toList.length = 3 := by simp [Value.cells]; omega
  obtain ⟨m, hf⟩ := struct_cells Try.underlying66 (by kernel_rfl) hl hf0
  obtain ⟨v0, z0, c0, t0⟩ := hf 0 _ rfl
  obtain ⟨v1, z1, c1, t1⟩ := hf 1 _ rfl
  obtain ⟨v2, z2, c2, t2⟩ := hf 2 _ rfl
  obtain ⟨A0, d0, l0, e0, s0, n0⟩ := open_ints uInts (by kernel_rfl) (by kernel_rfl) t0
  obtain ⟨a1, e1, _, w0⟩ := DataW.trod_int (show Try.prog.underlying _ = some (.int .u32) by kernel_rfl) t1
  obtain ⟨A2, d2, l2, e2, s2, n2⟩ := open_ints uInts (by kernel_rfl) (by kernel_rfl) t2
  simp only [List.cons.injEq, and_true] at e0 e1 e2
  subst e0 e1 e2
  obtain ⟨w1, w2⟩ := u32_wf w0
  obtain ⟨a, rfl⟩ := Int.eq_ofNat_of_zero_le w1
  refine ⟨A0, d0, l0, a, A2, d2, l2, ?_, by omega, ⟨s0, n0⟩, s2, n2⟩
  simp only [Value.cells] at hl c0 c1 c2
  obtain ⟨l⟩ := cs
  match l, hl with
  | [x0, x1, x2], _ =>
    simp at c0 c1 c2
    simp [c0, c1, c2]
end
end Go.Proofs.Ytmfbiohdmhbkoaa

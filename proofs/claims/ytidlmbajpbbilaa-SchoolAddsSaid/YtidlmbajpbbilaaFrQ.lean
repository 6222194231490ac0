/- The rows' frame: a claim, bytes opened. -/
import Derived.Test.YtidlmbajpbbilaaFr
import Derived.Test.YtidlmbajpbbilaaHlH
import Derived.Test.YtidlmbajpbbilaaChA
namespace Go.Proofs.Ytidlmbajpbbilaa
open Go.RowKit Go.ChangeShapes Go.WideShapes Go.ChangeAt Go.Deep

theorem uBytes : Try.prog.underlying 65 = some (.slice 5) := by kernel_rfl
theorem u8_wf {n : Int} (h : (Lit.int .u8 n).wf = true) : 0 ≤ n ∧ n < 256 := by
  simp only [Lit.wf, Bool.and_eq_true, decide_eq_true_eq] at h
  have h1 : IntKind.u8.min = 0 := by decide
  have h2 : IntKind.u8.max = 255 := by decide
  rw [h1, h2] at h; omega
section
variable {H : Type} {enc : TypeId × Value → H} {w : World} {base : Nat} {spare : Nat → Bool} {held : Bool}
theorem open_sets {n : Nat} {cs : List Value} {y : DataW H × List MemPlace} (h : DataW.trod enc Try.prog w base spare held n 25 cs = some y) : ∃ A c l, cs = [.slice A l.length c] ∧ Sl setCell1 1 w w.heap.size A l ∧ (A = none → c = 0) ∧ ∀ x ∈ l, IsU64 x :=
  open_sl setCell1 1 (by omega) (fun _ => rfl) IsU64 uSets (by kernel_rfl) (fun n cs' y hy _ => by
    obtain ⟨k, rfl, _, hw⟩ := DataW.trod_int (show Try.prog.underlying _ = some (.int .u64) by kernel_rfl) hy
    exact ⟨k, u64_wf hw, rfl⟩) h
theorem open_claim {n : Nat} {cs : List Value} {y : DataW H × List MemPlace} (h : DataW.trod enc Try.prog w base spare held n 43 cs = some y) (hl : cs.length = 4) : ∃ q : Clm, ((Sl setCell1 1 w w.heap.size q.sa q.sets ∧ ∀ x ∈ q.sets, IsU64 x) ∧ q.nil0) ∧ q.cells = cs := by
  obtain ⟨m, hf⟩ := struct_cells Try.underlying43 (by kernel_rfl) hl h
  obtain ⟨v0, z0, c0, t0⟩ := hf 0 _ rfl
  obtain ⟨v1, z1, c1, t1⟩ := hf 1 _ rfl
  obtain ⟨v2, z2, c2, t2⟩ := hf 2 _ rfl
  obtain ⟨v3, z3, c3, t3⟩ := hf 3 _ rfl
  obtain ⟨a0, e0, _, _⟩ := DataW.trod_int (show Try.prog.underlying _ = some (.int .i64) by kernel_rfl) t0
  obtain ⟨A1, d1, l1, e1, s1, n1, q1⟩ := open_sets t1
  obtain ⟨b2, e2, _⟩ := DataW.trod_bool (show Try.prog.underlying _ = some .bool by kernel_rfl) t2
  obtain ⟨b3, e3, _⟩ := DataW.trod_bool (show Try.prog.underlying _ = some .bool by kernel_rfl) t3
  simp only [List.cons.injEq, and_true] at e0 e1 e2 e3
  subst e0 e1 e2 e3
  refine ⟨⟨a0, A1, d1, l1, b2, b3⟩, ⟨⟨s1, q1⟩, n1⟩, ?_⟩
  match cs, hl with
  | [x0, x1, x2, x3], _ =>
    simp at c0 c1 c2 c3
    simp [Clm.cells, c0, c1, c2, c3]
set_option maxRecDepth 100000 in
theorem arg_claim {W : World} {v : Value} {d : DataW H} {p : List MemPlace} {b0 : Nat} (hv : Value.okWide Try.prog W .any b0 43 v) (h : DataW.Trod enc Try.prog W 0 (fun _ => true) true 43 v d p) : ∃ q : Clm, v = .agg #[.int .i64 q.kind, .slice q.sa q.sets.length q.sc, .bool q.total, .bool q.clear] ∧ (Sl setCell1 1 W W.heap.size q.sa q.sets ∧ ∀ x ∈ q.sets, IsU64 x) ∧ q.nil0 := by
  obtain ⟨cs, rfl, hsz⟩ := okWide_struct Try.underlying43 hv
  obtain ⟨fuel, hf⟩ := h
  have hC : Try.prog.cellsOf 43 = 4 := by kernel_rfl
  obtain ⟨q, h1, h2⟩ := open_claim hf (by simp [Value.cells]; omega)
  exact ⟨q, by simp only [Value.cells] at h2; obtain ⟨l⟩ := cs; simp at h2; subst h2; rfl, h1⟩
set_option maxRecDepth 100000 in
theorem arg_bytes {W : World} {v : Value} {d : DataW H} {p : List MemPlace} {b0 : Nat} (hv : Value.okWide Try.prog W .any b0 65 v) (h : DataW.Trod enc Try.prog W 0 (fun _ => true) true 65 v d p) : ∃ A c l, v = .slice A l.length c ∧ Sl byteCell 1 W W.heap.size A l ∧ (A = none → c = 0) ∧ ∀ x ∈ l, 0 ≤ x ∧ x < 256 := by
  obtain ⟨fuel, hf⟩ := h
  obtain ⟨A, c, l, h1, h2, h3, h4⟩ := open_sl byteCell 1 (by omega) (fun _ => rfl) (fun x : Int => 0 ≤ x ∧ x < 256) uBytes (by kernel_rfl) (fun n cs' y hy _ => by
    obtain ⟨k, rfl, _, hw⟩ := DataW.trod_int (show Try.prog.underlying _ = some (.int .u8) by kernel_rfl) hy
    exact ⟨k, u8_wf hw, rfl⟩) hf
  refine ⟨A, c, l, ?_, h2, h3, h4⟩
  simp only [Value.okWide, uBytes, Cell.okWide] at hv
  cases v <;> simp_all [Value.cells, Cell.ok]
set_option maxRecDepth 100000 in
theorem arg_u64 {W : World} {v : Value} {d : DataW H} {p : List MemPlace} {b0 : Nat} (hv : Value.okWide Try.prog W .any b0 63 v) (h : DataW.Trod enc Try.prog W 0 (fun _ => true) true 63 v d p) : ∃ a : Int, v = .int .u64 a ∧ IsU64 a := by
  have hu : Try.prog.underlying 63 = some (.int .u64) := by kernel_rfl
  simp only [Value.okWide, hu, Cell.okWide] at hv
  obtain ⟨fuel, hf⟩ := h
  obtain ⟨a, ha, _, hw⟩ := DataW.trod_int hu hf
  refine ⟨a, ?_, u64_wf hw⟩
  cases v <;> simp_all [Value.cells, Cell.ok]
set_option maxRecDepth 100000 in
theorem arg_u8 {W : World} {v : Value} {d : DataW H} {p : List MemPlace} {b0 : Nat} (hv : Value.okWide Try.prog W .any b0 5 v) (h : DataW.Trod enc Try.prog W 0 (fun _ => true) true 5 v d p) : ∃ a : Int, v = .int .u8 a ∧ 0 ≤ a ∧ a < 256 := by
  have hu : Try.prog.underlying 5 = some (.int .u8) := by kernel_rfl
  simp only [Value.okWide, hu, Cell.okWide] at hv
  obtain ⟨fuel, hf⟩ := h
  obtain ⟨a, ha, _, hw⟩ := DataW.trod_int hu hf
  refine ⟨a, ?_, u8_wf hw⟩
  cases v <;> simp_all [Value.cells, Cell.ok]
end
end Go.Proofs.Ytidlmbajpbbilaa

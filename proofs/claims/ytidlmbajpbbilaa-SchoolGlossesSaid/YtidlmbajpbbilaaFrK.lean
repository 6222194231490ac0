/- The rows' frame: cases opened. -/
import Derived.Test.YtidlmbajpbbilaaFr
import Derived.Test.YtidlmbajpbbilaaLgA
namespace Go.Proofs.Ytidlmbajpbbilaa
open Go.RowKit Go.ChangeShapes Go.WideShapes Go.ChangeAt Go.Deep

section
variable {H : Type} {enc : TypeId × Value → H} {w : World} {base : Nat} {spare : Nat → Bool} {held : Bool}
theorem open_case {n : Nat} {cs : List Value} {y : DataW H × List MemPlace} (h : DataW.trod enc Try.prog w base spare held n 54 cs = some y) (hl : cs.length = 2) : ∃ q : Cas, (((∃ a cap, q.v = .slice a q.when_.length cap ∧ Sl Tst.cells 4 w w.heap.size a q.when_) ∧ ∀ t ∈ q.when_, t.ok) ∧ q.nil0) ∧ q.cells = cs := by
  obtain ⟨m, hf⟩ := struct_cells Try.underlying54 (by kernel_rfl) hl h
  obtain ⟨v0, z0, c0, t0⟩ := hf 0 _ rfl
  obtain ⟨v1, z1, c1, t1⟩ := hf 1 _ rfl
  obtain ⟨A0, d0, l0, e0, s0, n0, q0⟩ := open_sl Tst.cells 4 (by omega) (fun _ => rfl) Tst.ok uTests (by kernel_rfl) (fun n cs' y hy hl => open_tst hy hl) t0
  obtain ⟨a1, e1, _, _⟩ := DataW.trod_int (show Try.prog.underlying _ = some (.int .i64) by kernel_rfl) t1
  simp only [List.cons.injEq, and_true] at e0 e1
  subst e0 e1
  refine ⟨⟨.slice A0 l0.length d0, l0, a1⟩, ⟨⟨⟨A0, d0, rfl, s0⟩, q0⟩, fun n cap e => ?_⟩, ?_⟩
  · have e2 : A0 = none ∧ l0.length = n ∧ d0 = cap := by injection e with e1 e2 e3; exact ⟨e1, e2, e3⟩
    rw [← e2.2.2]; exact n0 e2.1
  match cs, hl with
  | [x0, x1], _ =>
    simp at c0 c1
    simp [Cas.cells, c0, c1]
set_option maxRecDepth 100000 in
theorem arg_cases {W : World} {v : Value} {d : DataW H} {p : List MemPlace} {b0 : Nat} (hv : Value.okWide Try.prog W .any b0 51 v) (h : DataW.Trod enc Try.prog W 0 (fun _ => true) true 51 v d p) : ∃ A c l, v = .slice A l.length c ∧ CasW W W.heap.size A l ∧ (A = none → c = 0) ∧ ∀ q ∈ l, q.nil0 := by
  obtain ⟨fuel, hf⟩ := h
  obtain ⟨A, c, l, h1, h2, h3, h4⟩ := open_sl Cas.cells 2 (by omega) (fun _ => rfl) (fun q => ((∃ a cap, q.v = .slice a q.when_.length cap ∧ Sl Tst.cells 4 W W.heap.size a q.when_) ∧ ∀ t ∈ q.when_, t.ok) ∧ q.nil0) uCases (by kernel_rfl) (fun n cs' y hy hl => open_case hy hl) hf
  refine ⟨A, c, l, ?_, ⟨h2, fun q hq => (h4 q hq).1⟩, h3, fun q hq => (h4 q hq).2⟩
  simp only [Value.okWide, uCases, Cell.okWide] at hv
  cases v <;> simp_all [Value.cells, Cell.ok]
end
end Go.Proofs.Ytidlmbajpbbilaa

/- The rows' frame: a school opened. -/
import Derived.Test.YtidlmbajpbbilaaOpB
namespace Go.Proofs.Ytidlmbajpbbilaa
open Go.RowKit Go.ChangeShapes Go.WideShapes Go.Deep

theorem u64_wf {n : Int} (h : (Lit.int .u64 n).wf = true) : 0 ≤ n ∧ n < 18446744073709551616 := by
  simp only [Lit.wf, Bool.and_eq_true, decide_eq_true_eq] at h
  have h1 : IntKind.u64.min = 0 := by decide
  have h2 : IntKind.u64.max = 18446744073709551615 := by decide
  rw [h1, h2] at h; omega
section
variable {H : Type} {enc : TypeId × Value → H} {w : World} {base : Nat} {spare : Nat → Bool} {held : Bool}
theorem open_tst {n : Nat} {cs : List Value} {y : DataW H × List MemPlace} (h : DataW.trod enc Try.prog w base spare held n 103 cs = some y) (hl : cs.length = 4) : ∃ u : Tst, u.ok ∧ u.cells = cs := by
  obtain ⟨m, hf⟩ := struct_cells Try.underlying103 (by kernel_rfl) hl h
  obtain ⟨v0, z0, c0, t0⟩ := hf 0 _ rfl
  obtain ⟨v1, z1, c1, t1⟩ := hf 1 _ rfl
  obtain ⟨v2, z2, c2, t2⟩ := hf 2 _ rfl
  obtain ⟨v3, z3, c3, t3⟩ := hf 3 _ rfl
  obtain ⟨a0, e0, _, w0⟩ := DataW.trod_int (show Try.prog.underlying _ = some (.int .i64) by kernel_rfl) t0
  obtain ⟨a1, e1, _, w1⟩ := DataW.trod_int (show Try.prog.underlying _ = some (.int .i64) by kernel_rfl) t1
  obtain ⟨a2, e2, _, w2⟩ := DataW.trod_int (show Try.prog.underlying _ = some (.int .i64) by kernel_rfl) t2
  obtain ⟨a3, e3, _, w3⟩ := DataW.trod_int (show Try.prog.underlying _ = some (.int .u64) by kernel_rfl) t3
  simp only [List.cons.injEq, and_true] at e0 e1 e2 e3
  subst e0 e1 e2 e3
  refine ⟨⟨a0, a1, a2, a3⟩, ⟨by simp [Value.oneCell'], u64_wf w3⟩, ?_⟩
  match cs, hl with
  | [x0, x1, x2, x3], _ =>
    simp at c0 c1 c2 c3
    simp [Tst.cells, c0, c1, c2, c3]
theorem open_rule {n : Nat} {cs : List Value} {y : DataW H × List MemPlace} (h : DataW.trod enc Try.prog w base spare held n 82 cs = some y) (hl : cs.length = 5) : ∃ u : Rul, (u.wreads w w.heap.size ∧ u.nil0) ∧ u.cells = cs := by
  obtain ⟨m, hf⟩ := struct_cells Try.underlying82 (by kernel_rfl) hl h
  obtain ⟨v0, z0, c0, t0⟩ := hf 0 _ rfl
  obtain ⟨v1, z1, c1, t1⟩ := hf 1 _ rfl
  obtain ⟨v2, z2, c2, t2⟩ := hf 2 _ rfl
  obtain ⟨v3, z3, c3, t3⟩ := hf 3 _ rfl
  obtain ⟨v4, z4, c4, t4⟩ := hf 4 _ rfl
  obtain ⟨A0, d0, l0, e0, s0, n0, q0⟩ := open_sl Tst.cells 4 (by omega) (fun _ => rfl) Tst.ok uTests (by kernel_rfl) (fun n cs' y hy hl => open_tst hy hl) t0
  obtain ⟨a1, e1, _, _⟩ := DataW.trod_int (show Try.prog.underlying _ = some (.int .i64) by kernel_rfl) t1
  obtain ⟨a2, e2, _, _⟩ := DataW.trod_int (show Try.prog.underlying _ = some (.int .i64) by kernel_rfl) t2
  obtain ⟨A3, d3, l3, e3, s3, n3⟩ := open_ints uInts (by kernel_rfl) (by kernel_rfl) t3
  obtain ⟨a4, e4, _, _⟩ := DataW.trod_int (show Try.prog.underlying _ = some (.int .i64) by kernel_rfl) t4
  simp only [List.cons.injEq, and_true] at e0 e1 e2 e3 e4
  subst e0 e1 e2 e3 e4
  refine ⟨⟨A0, d0, l0, a1, a2, A3, d3, l3, a4⟩, ⟨⟨s0, s3, q0⟩, n0, n3⟩, ?_⟩
  match cs, hl with
  | [x0, x1, x2, x3, x4], _ =>
    simp at c0 c1 c2 c3 c4
    simp [Rul.cells, c0, c1, c2, c3, c4]
theorem open_rules {n : Nat} {cs : List Value} {y : DataW H × List MemPlace} (h : DataW.trod enc Try.prog w base spare held n 22 cs = some y) : ∃ A c l, cs = [.slice A l.length c] ∧ Sl Rul.cells 5 w w.heap.size A l ∧ (A = none → c = 0) ∧ ∀ u ∈ l, u.wreads w w.heap.size ∧ u.nil0 :=
  open_sl Rul.cells 5 (by omega) (fun _ => rfl) (fun u => u.wreads w w.heap.size ∧ u.nil0) uRules (by kernel_rfl) (fun n cs' y hy hl => open_rule hy hl) h
theorem open_school {n : Nat} {cs : List Value} {y : DataW H × List MemPlace} (h : DataW.trod enc Try.prog w base spare held n 24 cs = some y) (hl : cs.length = 5) : ∃ s : Sch, s.wreads w w.heap.size ∧ s.nil0 ∧ cs = [.int .i64 s.places, .int .i64 s.signs, .int .i64 s.kinds, .int .i64 s.answers, s.rv] := by
  obtain ⟨m, hf⟩ := struct_cells Try.underlying24 (by kernel_rfl) hl h
  obtain ⟨v0, z0, c0, t0⟩ := hf 0 _ rfl
  obtain ⟨v1, z1, c1, t1⟩ := hf 1 _ rfl
  obtain ⟨v2, z2, c2, t2⟩ := hf 2 _ rfl
  obtain ⟨v3, z3, c3, t3⟩ := hf 3 _ rfl
  obtain ⟨v4, z4, c4, t4⟩ := hf 4 _ rfl
  obtain ⟨a0, e0, _, _⟩ := DataW.trod_int (show Try.prog.underlying _ = some (.int .i64) by kernel_rfl) t0
  obtain ⟨a1, e1, _, _⟩ := DataW.trod_int (show Try.prog.underlying _ = some (.int .i64) by kernel_rfl) t1
  obtain ⟨a2, e2, _, _⟩ := DataW.trod_int (show Try.prog.underlying _ = some (.int .i64) by kernel_rfl) t2
  obtain ⟨a3, e3, _, _⟩ := DataW.trod_int (show Try.prog.underlying _ = some (.int .i64) by kernel_rfl) t3
  obtain ⟨A4, d4, l4, e4, s4, n4, q4⟩ := open_rules t4
  simp only [List.cons.injEq, and_true] at e0 e1 e2 e3 e4
  subst e0 e1 e2 e3 e4
  refine ⟨⟨a0, a1, a2, a3, A4, d4, l4⟩, ⟨s4, fun r hr => (q4 r hr).1⟩, ⟨n4, fun r hr => (q4 r hr).2⟩, ?_⟩
  match cs, hl with
  | [x0, x1, x2, x3, x4], _ =>
    simp at c0 c1 c2 c3 c4
    simp [c0, c1, c2, c3, c4]
end
end Go.Proofs.Ytidlmbajpbbilaa

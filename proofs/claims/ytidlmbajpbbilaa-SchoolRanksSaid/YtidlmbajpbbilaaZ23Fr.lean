/- The rows' frame: arguments opened (slices, schools, sets, numbers), the row's last step. -/
import Derived.Test.YtidlmbajpbbilaaZ20HlF
import Derived.Test.YtidlmbajpbbilaaRows
import Derived.Test.YtidlmbajpbbilaaChecked
import Derived.ProofKit
import Derived.Deep.Slices
import Derived.Deep.Fields
import Derived.ChangeSame
import Derived.Below
import Derived.Carry
import Derived.OpenShut
import Derived.Test.YtidlmbajpbbilaaZ21ChA
import Derived.Test.YtidlmbajpbbilaaZ12Tail
import Derived.OrdersHeld
import Derived.Deep.RegionHeld
namespace Go.Proofs.Ytidlmbajpbbilaa
open Go.RowKit Go.ChangeShapes Go.WideShapes Go.ChangeAt Go.Deep

theorem spot_of_cell {w : World} {a : Addr} {u : Value} (h : w.cell? a = some u) : a.spot = none := by
  unfold World.cell? at h
  split at h
  · split at h
    · cases h
    · rename_i hs; simpa using hs
  · cases h
/-- a slice of things, each opened by itself -/
theorem sl_of_open {α : Type} (f : α → List Value) (size : Nat) (hsz : 0 < size) (hf : ∀ x, (f x).length = size) {w : World} {a : Addr} (Q : α → Prop) : ∀ (len : Nat), (∀ i, i < len → ∃ x, Q x ∧ ∀ j u, (f x)[j]? = some u → w.cell? (a.add (i * size + j)) = some u) →
    ∃ l : List α, l.length = len ∧ Sl f size w w.heap.size (some a) l ∧ ∀ x ∈ l, Q x := by
  intro len h
  have h' : ∀ i : Fin len, ∃ x, Q x ∧ ∀ j u, (f x)[j]? = some u → w.cell? (a.add (i.1 * size + j)) = some u := fun i => h i.1 i.2
  let g : Fin len → α := fun i => (h' i).choose
  have hg : ∀ i, Q (g i) ∧ ∀ j u, (f (g i))[j]? = some u → w.cell? (a.add (i.1 * size + j)) = some u := fun i => (h' i).choose_spec
  have hlen : (List.ofFn g).length = len := by simp
  refine ⟨List.ofFn g, hlen, ⟨flat_length f size hf _, fun hpos => ?_⟩, fun x hx => ?_⟩
  · rw [hlen] at hpos
    have hc : ∀ (k r : Nat) (hk : k < len) (u : Value), (f (g ⟨k, hk⟩))[r]? = some u → w.cell? (a.add (k * size + r)) = some u := fun k r hk u hu => (hg ⟨k, hk⟩).2 r u hu
    have h0 : 0 < (f (g ⟨0, hpos⟩)).length := by rw [hf]; exact hsz
    have c0 := hc 0 0 hpos _ (List.getElem?_eq_getElem h0)
    have hs : (a.add (0 * size + 0)).spot = none := spot_of_cell c0
    obtain ⟨b, o, sp⟩ := a
    replace hs : sp = none := by simpa [Addr.add] using hs
    subst hs
    refine ⟨b, o, rfl, by have h := World.block_lt_of_cell? w _ c0; rw [Go.WideShapes.add_plain] at h; exact h, fun j u hu => ?_⟩
    have hjl : j < len * size := by
      have h1 := (List.getElem?_eq_some_iff.1 hu).1
      rw [flat_length f size hf, hlen] at h1
      exact h1
    have hk : j / size < len := by rw [Nat.div_lt_iff_lt_mul hsz]; exact hjl
    have hj : j / size * size + j % size = j := by rw [Nat.mul_comm]; exact Nat.div_add_mod j size
    have hfg := flat_get f size hf (List.ofFn g) (j / size) (j % size) (by rw [hlen]; exact hk) (Nat.mod_lt _ hsz)
    rw [hj, hu] at hfg
    have hge : (List.ofFn g)[j / size]'(by rw [hlen]; exact hk) = g ⟨j / size, hk⟩ := by simp
    rw [hge] at hfg
    have := hc (j / size) (j % size) hk u hfg.symm
    rw [hj, Go.WideShapes.add_plain] at this
    exact this
  · obtain ⟨i, rfl⟩ := List.mem_ofFn.1 hx
    exact (hg i).1
section
variable {H : Type} {enc : TypeId × Value → H} {P : Program} {w : World} {base : Nat} {spare : Nat → Bool} {held : Bool}
theorem open_sl {α : Type} (f : α → List Value) (size : Nat) (hsz : 0 < size) (hf : ∀ x, (f x).length = size) (Q : α → Prop) {t e : TypeId} {fuel : Nat} {cs : List Value} {x : DataW H × List MemPlace} (ht : P.underlying t = some (.slice e)) (hC : P.cellsOf e = size)
    (hel : ∀ (n : Nat) (cs' : List Value) (y : DataW H × List MemPlace), DataW.trod enc P w base spare held n e cs' = some y → cs'.length = size → ∃ u, Q u ∧ f u = cs') (h : DataW.trod enc P w base spare held fuel t cs = some x) :
    ∃ A c l, cs = [.slice A l.length c] ∧ Sl f size w w.heap.size A l ∧ (A = none → c = 0) ∧ ∀ u ∈ l, Q u := by
  rcases open_slice ht h with ⟨h0, _⟩ | ⟨a, len, cap, m, n, D, Pl, hcs, hb, hl, hm, hmm, hx, hi⟩
  · exact ⟨none, 0, [], h0, sl_nil, fun _ => rfl, fun u hu => by cases hu⟩
  · obtain ⟨l, hll, hs, hq⟩ := sl_of_open f size hsz hf (w := w) (a := a) Q len fun i hil => by
      obtain ⟨cs', hc, ht'⟩ := hi i (by rw [hmm]; split <;> omega)
      rw [hC] at hc
      obtain ⟨_, hcl, hat⟩ := World.cells?_some hc
      obtain ⟨u, hQ, hu⟩ := hel n cs' _ ht' hcl
      refine ⟨u, hQ, fun j v hv => ?_⟩
      rw [hu] at hv
      have hj : j < size := by have := (List.getElem?_eq_some_iff.1 hv).1; omega
      have := hat j hj
      rw [← Go.Deep.add_add, this, hv]
    exact ⟨some a, cap, l, by rw [hll]; exact hcs, hs, fun e => (by cases e), hq⟩
theorem open_ints {t e : TypeId} {fuel : Nat} {cs : List Value} {x : DataW H × List MemPlace} (ht : P.underlying t = some (.slice e)) (he : P.underlying e = some (.int .i64)) (hC : P.cellsOf e = 1)
    (h : DataW.trod enc P w base spare held fuel t cs = some x) : ∃ A c l, cs = [.slice A l.length c] ∧ Sl intCell 1 w w.heap.size A l ∧ (A = none → c = 0) := by
  obtain ⟨A, c, l, h1, h2, h3, _⟩ := open_sl intCell 1 (by omega) (fun _ => rfl) (fun _ => True) ht hC (fun n cs' y hy _ => by
    obtain ⟨k, rfl, _, _⟩ := DataW.trod_int he hy
    exact ⟨k, trivial, rfl⟩) h
  exact ⟨A, c, l, h1, h2, h3⟩
theorem struct_cells {e : TypeId} {fs : Array Field} {n : Nat} {cs : List Value} {y : DataW H × List MemPlace} (he : P.underlying e = some (.struct fs)) (hone : oneCellFields P fs = true) (hl : cs.length = fs.size)
    (h : DataW.trod enc P w base spare held n e cs = some y) : ∃ m, ∀ (j : Nat) (f : Field), fs[j]? = some f → ∃ v z, cs[j]? = some v ∧ DataW.trod enc P w base spare held m f.type [v] = some z := by
  obtain ⟨ys, n', hn', hy, hlen, hyl, hf⟩ := DataW.trod_struct he h
  refine ⟨n', fun j f hj => ?_⟩
  obtain ⟨ho, hk⟩ := hone_of hone j f hj
  have hjl : j < fs.size := (Array.getElem?_eq_some_iff.1 hj).1
  have h1 := hf j f hj
  rw [ho, hk] at h1
  have hone' : (cs.drop j).take 1 = [cs[j]'(by omega)] := by
    rw [List.drop_eq_getElem_cons (by omega)]; rfl
  rw [hone'] at h1
  have hys : ys[j]? = some (ys[j]'(by omega)) := List.getElem?_eq_getElem (by omega)
  exact ⟨_, _, List.getElem?_eq_getElem (by omega), h1.trans hys⟩
end
theorem u64_wf {n : Int} (h : (Lit.int .u64 n).wf = true) : 0 ≤ n ∧ n < 18446744073709551616 := by
  simp only [Lit.wf, Bool.and_eq_true, decide_eq_true_eq] at h
  have h1 : IntKind.u64.min = 0 := by decide
  have h2 : IntKind.u64.max = 18446744073709551615 := by decide
  rw [h1, h2] at h; omega
section
variable {H : Type} {enc : TypeId × Value → H} {w : World} {base : Nat} {spare : Nat → Bool} {held : Bool}
theorem open_tst {n : Nat} {cs : List Value} {y : DataW H × List MemPlace} (h : DataW.trod enc Try.prog w base spare held n 103 cs = some y) (hl : cs.length = 4) : ∃ u : Tst, u.ok ∧ u.cells = cs := by
  obtain ⟨m, hf⟩ := struct_cells Try.underlying103 (by kernel_rfl) hl h
  obtain ⟨v0, z0, c0, t0⟩ := hf 0 _ rfl
  obtain ⟨v1, z1, c1, t1⟩ := hf 1 _ rfl
  obtain ⟨v2, z2, c2, t2⟩ := hf 2 _ rfl
  obtain ⟨v3, z3, c3, t3⟩ := hf 3 _ rfl
  obtain ⟨a0, e0, _, w0⟩ := DataW.trod_int (show Try.prog.underlying _ = some (.int .i64) by kernel_rfl) t0
  obtain ⟨a1, e1, _, w1⟩ := DataW.trod_int (show Try.prog.underlying _ = some (.int .i64) by kernel_rfl) t1
  obtain ⟨a2, e2, _, w2⟩ := DataW.trod_int (show Try.prog.underlying _ = some (.int .i64) by kernel_rfl) t2
  obtain ⟨a3, e3, _, w3⟩ := DataW.trod_int (show Try.prog.underlying _ = some (.int .u64) by kernel_rfl) t3
  simp only [List.cons.injEq, and_true] at e0 e1 e2 e3
  subst e0 e1 e2 e3
  refine ⟨⟨a0, a1, a2, a3⟩, ⟨by simp [Value.oneCell'], u64_wf w3⟩, ?_⟩
  match cs, hl with
  | [x0, x1, x2, x3], _ =>
    simp at c0 c1 c2 c3
    simp [Tst.cells, c0, c1, c2, c3]
theorem open_rule {n : Nat} {cs : List Value} {y : DataW H × List MemPlace} (h : DataW.trod enc Try.prog w base spare held n 82 cs = some y) (hl : cs.length = 5) : ∃ u : Rul, (u.wreads w w.heap.size ∧ u.nil0) ∧ u.cells = cs := by
  obtain ⟨m, hf⟩ := struct_cells Try.underlying82 (by kernel_rfl) hl h
  obtain ⟨v0, z0, c0, t0⟩ := hf 0 _ rfl
  obtain ⟨v1, z1, c1, t1⟩ := hf 1 _ rfl
  obtain ⟨v2, z2, c2, t2⟩ := hf 2 _ rfl
  obtain ⟨v3, z3, c3, t3⟩ := hf 3 _ rfl
  obtain ⟨v4, z4, c4, t4⟩ := hf 4 _ rfl
  obtain ⟨A0, d0, l0, e0, s0, n0, q0⟩ := open_sl Tst.cells 4 (by omega) (fun _ => rfl) Tst.ok uTests (by kernel_rfl) (fun n cs' y hy hl => open_tst hy hl) t0
  obtain ⟨a1, e1, _, _⟩ := DataW.trod_int (show Try.prog.underlying _ = some (.int .i64) by kernel_rfl) t1
  obtain ⟨a2, e2, _, _⟩ := DataW.trod_int (show Try.prog.underlying _ = some (.int .i64) by kernel_rfl) t2
  obtain ⟨A3, d3, l3, e3, s3, n3⟩ := open_ints uInts (by kernel_rfl) (by kernel_rfl) t3
  obtain ⟨a4, e4, _, _⟩ := DataW.trod_int (show Try.prog.underlying _ = some (.int .i64) by kernel_rfl) t4
  simp only [List.cons.injEq, and_true] at e0 e1 e2 e3 e4
  subst e0 e1 e2 e3 e4
  refine ⟨⟨A0, d0, l0, a1, a2, A3, d3, l3, a4⟩, ⟨⟨s0, s3, q0⟩, n0, n3⟩, ?_⟩
  match cs, hl with
  | [x0, x1, x2, x3, x4], _ =>
    simp at c0 c1 c2 c3 c4
    simp [Rul.cells, c0, c1, c2, c3, c4]
theorem open_rules {n : Nat} {cs : List Value} {y : DataW H × List MemPlace} (h : DataW.trod enc Try.prog w base spare held n 22 cs = some y) : ∃ A c l, cs = [.slice A l.length c] ∧ Sl Rul.cells 5 w w.heap.size A l ∧ (A = none → c = 0) ∧ ∀ u ∈ l, u.wreads w w.heap.size ∧ u.nil0 :=
  open_sl Rul.cells 5 (by omega) (fun _ => rfl) (fun u => u.wreads w w.heap.size ∧ u.nil0) uRules (by kernel_rfl) (fun n cs' y hy hl => open_rule hy hl) h
theorem open_school {n : Nat} {cs : List Value} {y : DataW H × List MemPlace} (h : DataW.trod enc Try.prog w base spare held n 24 cs = some y) (hl : cs.length = 5) : ∃ s : Sch, s.wreads w w.heap.size ∧ s.nil0 ∧ cs = [.int .i64 s.places, .int .i64 s.signs, .int .i64 s.kinds, .int .i64 s.answers, s.rv] := by
  obtain ⟨m, hf⟩ := struct_cells Try.underlying24 (by kernel_rfl) hl h
  obtain ⟨v0, z0, c0, t0⟩ := hf 0 _ rfl
  obtain ⟨v1, z1, c1, t1⟩ := hf 1 _ rfl
  obtain ⟨v2, z2, c2, t2⟩ := hf 2 _ rfl
  obtain ⟨v3, z3, c3, t3⟩ := hf 3 _ rfl
  obtain ⟨v4, z4, c4, t4⟩ := hf 4 _ rfl
  obtain ⟨a0, e0, _, _⟩ := DataW.trod_int (show Try.prog.underlying _ = some (.int .i64) by kernel_rfl) t0
  obtain ⟨a1, e1, _, _⟩ := DataW.trod_int (show Try.prog.underlying _ = some (.int .i64) by kernel_rfl) t1
  obtain ⟨a2, e2, _, _⟩ := DataW.trod_int (show Try.prog.underlying _ = some (.int .i64) by kernel_rfl) t2
  obtain ⟨a3, e3, _, _⟩ := DataW.trod_int (show Try.prog.underlying _ = some (.int .i64) by kernel_rfl) t3
  obtain ⟨A4, d4, l4, e4, s4, n4, q4⟩ := open_rules t4
  simp only [List.cons.injEq, and_true] at e0 e1 e2 e3 e4
  subst e0 e1 e2 e3 e4
  refine ⟨⟨a0, a1, a2, a3, A4, d4, l4⟩, ⟨s4, fun r hr => (q4 r hr).1⟩, ⟨n4, fun r hr => (q4 r hr).2⟩, ?_⟩
  match cs, hl with
  | [x0, x1, x2, x3, x4], _ =>
    simp at c0 c1 c2 c3 c4
    simp [c0, c1, c2, c3, c4]
end
theorem own_godebug : ownKnob Try.prog.godebug = none := by kernel_rfl
theorem laidOut_ : laidOutB Try.prog = true := by kernel_rfl
section
variable {H : Type} {enc : TypeId × Value → H}
/-- The row's last step for a law without variables of the package that leaves what was there: results and arguments are given, what was not reached stays by the frame. -/
theorem row_end {f : Func} {c : ChangeSpec} {W W' : World} {args : Array Value} {v : Value} {ds : List (DataW H)} {ps : List MemPlace} (hv : c.vars = [])
    (hW : DataW.Whole enc Try.prog f.params.toList c.vars false W args.toList ds [] ps) (hb : Below W.heap.size W W')
    (hr : DataW.TrodAll enc Try.prog W' W.heap.size (fun _ => false) false f.resultTypes.toList (v.resultList f.resultTypes.size) (c.fn H ds).results [])
    (ha : DataW.TrodAll enc Try.prog W' 0 (fun b => decide (b < W.heap.size)) true f.params.toList args.toList (c.fn H ds).args ps) (hn : (c.fn H ds).vars = []) :
    c.post enc Try.prog f false true false false W args v W' := by
  have hk : W.keptBut W' (· ∈ ps) := hb.frame (· ∈ ps)
  have hd : ds ++ ([] : List (DataW H)) = ds := List.append_nil ds
  unfold ChangeSpec.post
  refine ⟨ds, [], ps, [], ps, [], hW, ?_, ?_, ?_, World.keptBut_mono (fun x hx => ⟨hx, Or.inr (Or.inl hx)⟩) hk, Bool.noConfusion⟩
  · rw [hd]; exact hr
  · rw [hd]; exact ha
  · rw [hd, hv, hn]; exact rfl
set_option maxRecDepth 100000 in
theorem arg_school {W : World} {v : Value} {d : DataW H} {p : List MemPlace} {b0 : Nat} (hv : Value.okWide Try.prog W .any b0 24 v) (h : DataW.Trod enc Try.prog W 0 (fun _ => true) true 24 v d p) : ∃ s : Sch, v = scv s s.rv ∧ s.wreads W W.heap.size ∧ s.nil0 := by
  obtain ⟨cs, rfl, hsz⟩ := okWide_struct Try.underlying24 hv
  obtain ⟨fuel, hf⟩ := h
  have hC : Try.prog.cellsOf 24 = 5 := by kernel_rfl
  obtain ⟨s, h1, h2, h3⟩ := open_school hf (by simp [Value.cells]; omega)
  exact ⟨s, by simp only [Value.cells] at h3; obtain ⟨l⟩ := cs; simp at h3; subst h3; rfl, h1, h2⟩
set_option maxRecDepth 100000 in
theorem arg_ints {W : World} {v : Value} {d : DataW H} {p : List MemPlace} {b0 : Nat} (hv : Value.okWide Try.prog W .any b0 28 v) (h : DataW.Trod enc Try.prog W 0 (fun _ => true) true 28 v d p) : ∃ A c l, v = .slice A l.length c ∧ Sl intCell 1 W W.heap.size A l ∧ (A = none → c = 0) := by
  obtain ⟨fuel, hf⟩ := h
  obtain ⟨A, c, l, h1, h2, h3⟩ := open_ints uInts (by kernel_rfl) (by kernel_rfl) hf
  refine ⟨A, c, l, ?_, h2, h3⟩
  simp only [Value.okWide, uInts, Cell.okWide] at hv
  cases v <;> simp_all [Value.cells, Cell.ok]
set_option maxRecDepth 100000 in
theorem arg_pair {W : World} {v : Value} {d : DataW H} {p : List MemPlace} {b0 : Nat} (hv : Value.okWide Try.prog W .any b0 87 v) (h : DataW.Trod enc Try.prog W 0 (fun _ => true) true 87 v d p) : ∃ a b : Int, v = .agg #[.int .i64 a, .int .i64 b] := by
  have hu : Try.prog.underlying 87 = some (.array 2 3) := by kernel_rfl
  have hC : Try.prog.cellsOf 87 = 2 := by kernel_rfl
  have hC1 : Try.prog.cellsOf 3 = 1 := by kernel_rfl
  obtain ⟨cs, rfl, hsz⟩ : ∃ cs, v = .agg cs ∧ cs.size = Try.prog.cellsOf 87 := by
    simp only [Value.okWide, hu] at hv
    obtain ⟨cs, h1, h2, _⟩ := hv
    exact ⟨cs, h1, h2⟩
  obtain ⟨fuel, hf⟩ := h
  obtain ⟨xs, m, _, _, hl, hxl, hi⟩ := DataW.trod_array hu hf
  obtain ⟨l⟩ := cs
  match l, hsz.trans hC with
  | [c0, c1], _ =>
    have t0 := hi 0 (by omega); have t1 := hi 1 (by omega)
    rw [hC1, List.getElem?_eq_getElem (by omega)] at t0 t1
    simp [Value.cells] at t0 t1
    obtain ⟨a, ha, _⟩ := DataW.trod_int (show Try.prog.underlying _ = some (.int .i64) by kernel_rfl) t0
    obtain ⟨b, hb, _⟩ := DataW.trod_int (show Try.prog.underlying _ = some (.int .i64) by kernel_rfl) t1
    simp at ha hb
    exact ⟨a, b, by rw [ha, hb]⟩
set_option maxRecDepth 100000 in
theorem stays {W W' : World} {t : TypeId} (hr : Try.prog.readableRec t = true) (hrow : t < Try.prog.types.size) {v : Value} {d : DataW H} {ps : List MemPlace} {sp : Nat → Bool} (h : DataW.Trod enc Try.prog W 0 (fun _ => true) true t v d ps) (hb : Below W.heap.size W W') (hlt : ∀ x ∈ ps, x.block < W.heap.size) (hsp : ∀ x ∈ ps, sp x.block = true) :
    DataW.Trod enc Try.prog W' 0 sp true t v d ps := WideElems.Trod_stays laidOut_ hr hrow h (fun x hx => hb.same (hlt x hx)) hsp
end

section
variable {H : Type} {enc : TypeId × Value → H}
set_option maxRecDepth 100000 in
theorem arg_int {W : World} {v : Value} {d : DataW H} {p : List MemPlace} {b0 : Nat} (hv : Value.okWide Try.prog W .any b0 3 v) (h : DataW.Trod enc Try.prog W 0 (fun _ => true) true 3 v d p) : ∃ a : Int, v = .int .i64 a := by
  have hu : Try.prog.underlying 3 = some (.int .i64) := by kernel_rfl
  simp only [Value.okWide, hu, Cell.okWide] at hv
  obtain ⟨fuel, hf⟩ := h
  obtain ⟨a, ha, _⟩ := DataW.trod_int hu hf
  cases v <;> simp_all [Value.cells, Cell.ok]
set_option maxRecDepth 100000 in
theorem arg_sets {W : World} {v : Value} {d : DataW H} {p : List MemPlace} {b0 : Nat} (hv : Value.okWide Try.prog W .any b0 25 v) (h : DataW.Trod enc Try.prog W 0 (fun _ => true) true 25 v d p) : ∃ A c l, v = .slice A l.length c ∧ Sl setCell1 1 W W.heap.size A l ∧ (A = none → c = 0) ∧ ∀ x ∈ l, IsU64 x := by
  obtain ⟨fuel, hf⟩ := h
  obtain ⟨A, c, l, h1, h2, h3, h4⟩ := open_sl setCell1 1 (by omega) (fun _ => rfl) IsU64 uSets (by kernel_rfl) (fun n cs' y hy _ => by
    obtain ⟨k, rfl, _, hw⟩ := DataW.trod_int (show Try.prog.underlying _ = some (.int .u64) by kernel_rfl) hy
    exact ⟨k, u64_wf hw, rfl⟩) hf
  refine ⟨A, c, l, ?_, h2, h3, h4⟩
  simp only [Value.okWide, uSets, Cell.okWide] at hv
  cases v <;> simp_all [Value.cells, Cell.ok]
end
end Go.Proofs.Ytidlmbajpbbilaa
namespace Go.Proofs.Ytidlmbajpbbilaa
open Go.RowKit Go.ChangeShapes Go.WideShapes Go.ChangeAt Go.Deep

theorem uBytes : Try.prog.underlying 65 = some (.slice 5) := by kernel_rfl
theorem u8_wf {n : Int} (h : (Lit.int .u8 n).wf = true) : 0 ≤ n ∧ n < 256 := by
  simp only [Lit.wf, Bool.and_eq_true, decide_eq_true_eq] at h
  have h1 : IntKind.u8.min = 0 := by decide
  have h2 : IntKind.u8.max = 255 := by decide
  rw [h1, h2] at h; omega
section
variable {H : Type} {enc : TypeId × Value → H} {w : World} {base : Nat} {spare : Nat → Bool} {held : Bool}
theorem open_sets {n : Nat} {cs : List Value} {y : DataW H × List MemPlace} (h : DataW.trod enc Try.prog w base spare held n 25 cs = some y) : ∃ A c l, cs = [.slice A l.length c] ∧ Sl setCell1 1 w w.heap.size A l ∧ (A = none → c = 0) ∧ ∀ x ∈ l, IsU64 x :=
  open_sl setCell1 1 (by omega) (fun _ => rfl) IsU64 uSets (by kernel_rfl) (fun n cs' y hy _ => by
    obtain ⟨k, rfl, _, hw⟩ := DataW.trod_int (show Try.prog.underlying _ = some (.int .u64) by kernel_rfl) hy
    exact ⟨k, u64_wf hw, rfl⟩) h
theorem open_claim {n : Nat} {cs : List Value} {y : DataW H × List MemPlace} (h : DataW.trod enc Try.prog w base spare held n 43 cs = some y) (hl : cs.length = 4) : ∃ q : Clm, ((Sl setCell1 1 w w.heap.size q.sa q.sets ∧ ∀ x ∈ q.sets, IsU64 x) ∧ q.nil0) ∧ q.cells = cs := by
  obtain ⟨m, hf⟩ := struct_cells Try.underlying43 (by kernel_rfl) hl h
  obtain ⟨v0, z0, c0, t0⟩ := hf 0 _ rfl
  obtain ⟨v1, z1, c1, t1⟩ := hf 1 _ rfl
  obtain ⟨v2, z2, c2, t2⟩ := hf 2 _ rfl
  obtain ⟨v3, z3, c3, t3⟩ := hf 3 _ rfl
  obtain ⟨a0, e0, _, _⟩ := DataW.trod_int (show Try.prog.underlying _ = some (.int .i64) by kernel_rfl) t0
  obtain ⟨A1, d1, l1, e1, s1, n1, q1⟩ := open_sets t1
  obtain ⟨b2, e2, _⟩ := DataW.trod_bool (show Try.prog.underlying _ = some .bool by kernel_rfl) t2
  obtain ⟨b3, e3, _⟩ := DataW.trod_bool (show Try.prog.underlying _ = some .bool by kernel_rfl) t3
  simp only [List.cons.injEq, and_true] at e0 e1 e2 e3
  subst e0 e1 e2 e3
  refine ⟨⟨a0, A1, d1, l1, b2, b3⟩, ⟨⟨s1, q1⟩, n1⟩, ?_⟩
  match cs, hl with
  | [x0, x1, x2, x3], _ =>
    simp at c0 c1 c2 c3
    simp [Clm.cells, c0, c1, c2, c3]
set_option maxRecDepth 100000 in
theorem arg_claim {W : World} {v : Value} {d : DataW H} {p : List MemPlace} {b0 : Nat} (hv : Value.okWide Try.prog W .any b0 43 v) (h : DataW.Trod enc Try.prog W 0 (fun _ => true) true 43 v d p) : ∃ q : Clm, v = .agg #[.int .i64 q.kind, .slice q.sa q.sets.length q.sc, .bool q.total, .bool q.clear] ∧ (Sl setCell1 1 W W.heap.size q.sa q.sets ∧ ∀ x ∈ q.sets, IsU64 x) ∧ q.nil0 := by
  obtain ⟨cs, rfl, hsz⟩ := okWide_struct Try.underlying43 hv
  obtain ⟨fuel, hf⟩ := h
  have hC : Try.prog.cellsOf 43 = 4 := by kernel_rfl
  obtain ⟨q, h1, h2⟩ := open_claim hf (by simp [Value.cells]; omega)
  exact ⟨q, by simp only [Value.cells] at h2; obtain ⟨l⟩ := cs; simp at h2; subst h2; rfl, h1⟩
set_option maxRecDepth 100000 in
theorem arg_bytes {W : World} {v : Value} {d : DataW H} {p : List MemPlace} {b0 : Nat} (hv : Value.okWide Try.prog W .any b0 65 v) (h : DataW.Trod enc Try.prog W 0 (fun _ => true) true 65 v d p) : ∃ A c l, v = .slice A l.length c ∧ Sl byteCell 1 W W.heap.size A l ∧ (A = none → c = 0) ∧ ∀ x ∈ l, 0 ≤ x ∧ x < 256 := by
  obtain ⟨fuel, hf⟩ := h
  obtain ⟨A, c, l, h1, h2, h3, h4⟩ := open_sl byteCell 1 (by omega) (fun _ => rfl) (fun x : Int => 0 ≤ x ∧ x < 256) uBytes (by kernel_rfl) (fun n cs' y hy _ => by
    obtain ⟨k, rfl, _, hw⟩ := DataW.trod_int (show Try.prog.underlying _ = some (.int .u8) by kernel_rfl) hy
    exact ⟨k, u8_wf hw, rfl⟩) hf
  refine ⟨A, c, l, ?_, h2, h3, h4⟩
  simp only [Value.okWide, uBytes, Cell.okWide] at hv
  cases v <;> simp_all [Value.cells, Cell.ok]
set_option maxRecDepth 100000 in
theorem arg_u64 {W : World} {v : Value} {d : DataW H} {p : List MemPlace} {b0 : Nat} (hv : Value.okWide Try.prog W .any b0 63 v) (h : DataW.Trod enc Try.prog W 0 (fun _ => true) true 63 v d p) : ∃ a : Int, v = .int .u64 a ∧ IsU64 a := by
  have hu : Try.prog.underlying 63 = some (.int .u64) := by kernel_rfl
  simp only [Value.okWide, hu, Cell.okWide] at hv
  obtain ⟨fuel, hf⟩ := h
  obtain ⟨a, ha, _, hw⟩ := DataW.trod_int hu hf
  refine ⟨a, ?_, u64_wf hw⟩
  cases v <;> simp_all [Value.cells, Cell.ok]
set_option maxRecDepth 100000 in
theorem arg_u8 {W : World} {v : Value} {d : DataW H} {p : List MemPlace} {b0 : Nat} (hv : Value.okWide Try.prog W .any b0 5 v) (h : DataW.Trod enc Try.prog W 0 (fun _ => true) true 5 v d p) : ∃ a : Int, v = .int .u8 a ∧ 0 ≤ a ∧ a < 256 := by
  have hu : Try.prog.underlying 5 = some (.int .u8) := by kernel_rfl
  simp only [Value.okWide, hu, Cell.okWide] at hv
  obtain ⟨fuel, hf⟩ := h
  obtain ⟨a, ha, _, hw⟩ := DataW.trod_int hu hf
  refine ⟨a, ?_, u8_wf hw⟩
  cases v <;> simp_all [Value.cells, Cell.ok]
end
end Go.Proofs.Ytidlmbajpbbilaa
namespace Go.Proofs.Ytidlmbajpbbilaa
open Go.RowKit

section
variable {P : Program} {ops : Array Oper} {md : Region.Mode} {Q : Exit → Act → World → Prop} {S : World → Prop}
def wpAnyT (P : Program) (md : Region.Mode) (ops : Array Oper) (Q : Exit → Act → World → Prop) (S : World → Prop) (n g : Nat) : Nat → Array Bool → Act → World → Prop
  | 0, listed, a, w => (∀ j ∈ Region.ready md ops listed, n ≤ j) ∧ wpAny P md ops Q g listed a w
  | f + 1, listed, a, w => Region.ready md ops listed ≠ [] ∧ ∀ i ∈ Region.ready md ops listed, i < n ∧ wpOp P ops Q i (fun a' w' => S w' ∧ wpAnyT P md ops Q S n g f (listed.setIfInBounds i true) a' w') a w
theorem wpAny_of_T {n g : Nat} : ∀ (f : Nat) (listed : Array Bool) (a : Act) (w : World), wpAnyT P md ops Q S n g f listed a w → wpAny P md ops Q (f + g) listed a w
  | 0, _, _, _, h => by rw [Nat.zero_add]; exact h.2
  | f + 1, _, _, _, h => by
    rw [show f + 1 + g = (f + g) + 1 by omega]
    exact ⟨fun h0 => absurd h0 h.1, fun i hi => wpOp_mono (fun a' w' h' => wpAny_of_T f _ a' w' h'.2) (h.2 i hi).2⟩
theorem wpAnyT_first {n g i : Nat} {oi : Oper} {v : Value} (hi : ops[i]? = some oi) (hsel : ∀ (j : Nat) (o : Oper) cs b, ops[j]? = some o → o.op ≠ .select cs b)
    (hs : Region.sinkB md ops n = true) (hc : Region.chainB md ops n = true) (hn : n < ops.size) (hin : i < n) (hQ : ∀ c a w, Q (.panic c) (a.put oi.dst v) w → Q (.panic c) a w) :
    ∀ (f : Nat) (listed : Array Bool) (a : Act) (w : World), HeadInv md ops n listed →
      (∀ j oj, ops[j]? = some oj → j ≠ i → listed.getD j true = false → (∀ e ∈ oj.after, Region.binds md e = true → e.on ≠ i) → oi.apart ops oj = true) →
      i ∈ Region.ready md ops listed → YieldsIf P ops S oi v a → S w →
      wpAnyT P md ops Q S n g f (listed.setIfInBounds i true) (a.put oi.dst v) w → wpAnyT P md ops Q S n g (f + 1) listed a w := by
  intro f
  induction f with
  | zero =>
    intro listed a w inv _ hr hy hS H
    have hun := (mem_ready.1 hr).1
    refine ⟨fun h => (by rw [h] at hr; cases hr), fun j hj => ?_⟩
    have hjn : j < n := by
      rcases Nat.lt_or_ge j n with h | h
      · exact h
      · exact absurd hj (tail_waits hs hc hn inv _ i rfl hin hun j h)
    refine ⟨hjn, ?_⟩
    by_cases hji : j = i
    · subst hji; exact hy.wpOp hi hS ⟨hS, H⟩
    · have := H.1 j (ready_mono hj hji)
      omega
  | succ f ih =>
    intro listed a w inv hfree hr hy hS H
    have hun := (mem_ready.1 hr).1
    refine ⟨fun h => (by rw [h] at hr; cases hr), fun j hj => ?_⟩
    have hjn : j < n := by
      rcases Nat.lt_or_ge j n with h | h
      · exact h
      · exact absurd hj (tail_waits hs hc hn inv _ i rfl hin hun j h)
    refine ⟨hjn, ?_⟩
    by_cases hji : j = i
    · subst hji; exact hy.wpOp hi hS ⟨hS, H⟩
    · have h1 := (H.2 j (ready_mono hj hji)).2
      obtain ⟨hjun, oj, hoj, hall⟩ := mem_ready.1 hj
      have hnot : ∀ e ∈ oj.after, Region.binds md e = true → e.on ≠ i := fun e he hb heq => by
        have h1 := hall e he hb
        rw [heq, getD_both hun] at h1
        cases h1
      have h2 := wpOp_putIf hoj (hfree j oj hoj hji hjun hnot) (fun cs b => hsel i oi cs b hi) (fun cs b => hsel j oj cs b hoj) hQ hy h1
      have hfree' : ∀ k ok, ops[k]? = some ok → k ≠ i → (listed.setIfInBounds j true).getD k true = false →
          (∀ e ∈ ok.after, Region.binds md e = true → e.on ≠ i) → oi.apart ops ok = true := fun k ok hk hki hun hno => by
        refine hfree k ok hk hki ?_ hno
        by_cases hjk : j = k
        · subst hjk; exact hjun
        · rw [getD_set_ne true hjk] at hun; exact hun
      refine wpOp_mono (fun a' w' h3 => ⟨h3.2.1, ih (listed.setIfInBounds j true) a' w' (inv.set hj hjn) hfree' (ready_mono hr (Ne.symm hji)) h3.1 h3.2.1 ?_⟩) h2
      rw [Array.setIfInBounds_comm _ _ hji]
      exact h3.2.2
/-- the walk at hand -/
def WT (P : Program) (md : Region.Mode) (ops : Array Oper) (Q : Exit → Act → World → Prop) (S : World → Prop) (n g f : Nat) (listed : Array Bool) (a : Act) (w : World) : Prop :=
  Region.noSelect ops = true → Region.sinkB md ops n = true → Region.chainB md ops n = true → n < ops.size → HeadInv md ops n listed → wpAnyT P md ops Q S n g f listed a w
theorem WT.take {n g i f : Nat} {oi : Oper} {v : Value} {listed : Array Bool} {a : Act} {w : World} (hi : ops[i]? = some oi) (hin : i < n) (hf : Region.free md ops listed i = true) (hr : (Region.ready md ops listed).contains i = true)
    (hQ : ∀ c a w, Q (.panic c) (a.put oi.dst v) w → Q (.panic c) a w) (hy : YieldsIf P ops S oi v a) (hS : S w) (h : WT P md ops Q S n g f (listed.setIfInBounds i true) (a.put oi.dst v) w) : WT P md ops Q S n g (f + 1) listed a w :=
  fun h1 hs hc hn inv => wpAnyT_first hi (Region.noSelect_spec h1) hs hc hn hin hQ f listed a w inv (Region.free_spec hi hf) (by simpa using hr) hy hS (h h1 hs hc hn (inv.set (by simpa using hr) hin))
theorem WT.takeD {n g i f : Nat} {d : Option Tmp} {oi : Oper} {v : Value} {listed : Array Bool} {a : Act} {w : World} (hi : ops[i]? = some oi) (hd : oi.dst = d) (hin : i < n) (hf : Region.free md ops listed i = true) (hr : (Region.ready md ops listed).contains i = true)
    (hQ : ∀ c a w, Q (.panic c) (a.put d v) w → Q (.panic c) a w) (hy : YieldsIf P ops S oi v a) (hS : S w) (h : WT P md ops Q S n g f (listed.setIfInBounds i true) (a.put d v) w) : WT P md ops Q S n g (f + 1) listed a w := by
  subst hd; exact WT.take hi hin hf hr hQ hy hS h
theorem WT.one {n g i f : Nat} {o : Oper} {listed : Array Bool} {a : Act} {w : World} (ho : ops[i]? = some o) (hin : i < n) (hr : Region.ready md ops listed = [i])
    (h : ∀ K' : Act → World → Prop, Shut (∀ a w, S w → (S w → WT P md ops Q S n g f (listed.setIfInBounds i true) a w) → K' a w) → if Region.wanted o (yielded ops a.tmps) = true then Oper.wp P o a w K' Q else K' (a.put o.dst undef) w) : WT P md ops Q S n g (f + 1) listed a w :=
  fun h1 hs hc hn inv => ⟨(by rw [hr]; simp), fun j hj => by
    have hji : j = i := by rw [hr] at hj; simpa using hj
    subst hji
    exact ⟨hin, wpOp_step ho fun K' hK => h K' fun a w hS hW => hK a w ⟨hS, hW hS h1 hs hc hn (inv.set (by rw [hr]; simp) hin)⟩⟩⟩
theorem WT.done {n g : Nat} {listed : Array Bool} {a : Act} {w : World} (hr : Region.ready md ops listed = [n]) (h : wpAny P md ops Q g listed a w) : WT P md ops Q S n g 0 listed a w :=
  fun _ _ _ _ _ => ⟨fun j hj => (by rw [hr] at hj; have e : j = n := (by simpa using hj); omega), h⟩
theorem WT.last {n : Nat} {o : Oper} {listed : Array Bool} {a : Act} {w : World} (ho : ops[n]? = some o) (hr : Region.ready md ops listed = [n]) (hr2 : Region.ready md ops (listed.setIfInBounds n true) = [])
    (h : ∀ K' : Act → World → Prop, Shut (∀ a w, Q .normal a w → K' a w) → if Region.wanted o (yielded ops a.tmps) = true then Oper.wp P o a w K' Q else K' (a.put o.dst undef) w) : WT P md ops Q S n 1 0 listed a w :=
  WT.done hr ⟨fun h0 => (by rw [hr] at h0; cases h0), fun j hj => by
    have hji : j = n := by rw [hr] at hj; simpa using hj
    subst hji
    exact wpOp_step ho fun K' hK => h K' fun a w hq => hK a w ⟨hr2, hq⟩⟩
theorem wp_region_T {id : Nat} {a : Act} {w : World} (n : Nat) (hm : P.follows .mixedOrders = true) (h1 : Region.noSelect ops = true) (hs : Region.sinkB .any ops n = true) (hc : Region.chainB .any ops n = true) (hn : n < ops.size) (hS : S w.drew)
    (h : S w.drew → WT P .any ops Q S n (ops.size - n) n (Array.replicate ops.size false) a w.drew) : (Code.region id ops true).wp P Q a w := by
  refine wp_region_any hm ?_
  have inv0 : HeadInv .any ops n (Array.replicate ops.size false) :=
    ⟨by simp, fun j oj _ hl => (by rw [getD_replicate_false] at hl; cases hl), fun t _ ht => getD_in (by simpa using ht) (getD_replicate_false _ _)⟩
  have := wpAny_of_T _ _ _ _ (h hS h1 hs hc hn inv0)
  rw [show n + (ops.size - n) = ops.size by omega] at this
  exact this
end
end Go.Proofs.Ytidlmbajpbbilaa
namespace Go.Proofs.Ytidlmbajpbbilaa
open Go.RowKit

def Rul.dbl (r : Rul) : Rul := { r with rank := 2 * r.rank }
/-- all ranks twice as great -/
def Sch.dbl (s : Sch) : Sch := { s with rules := s.rules.map Rul.dbl }
theorem dbl_get (s : Sch) (i : Nat) : s.dbl.rules[i]? = (s.rules[i]?).map Rul.dbl := by simp [Sch.dbl]
theorem dbl_len (s : Sch) : s.dbl.rules.length = s.rules.length := by simp [Sch.dbl]
theorem appl_dbl (s : Sch) (ch : List Int) : appl s.dbl ch = appl s ch := by
  funext i; simp only [appl, dbl_get]; cases s.rules[i]? <;> rfl
theorem spks_dbl (s : Sch) (hold : Nat → Bool) (kind : Int) : ∀ n, spks s.dbl hold kind n = spks s hold kind n
  | 0 => rfl
  | n + 1 => by
    have ih := spks_dbl s hold kind n
    funext i
    simp only [spks, dbl_get, ih]
    cases s.rules[n]? <;> rfl
theorem sp_dbl (s : Sch) (hold : Nat → Bool) (kind : Int) : sp s.dbl hold kind = sp s hold kind := by funext i; simp only [sp, spks_dbl]
theorem rnk_dbl (s : Sch) (i : Nat) : rnk s.dbl i = 2 * rnk s i := by
  simp only [rnk, dbl_get]; cases s.rules[i]? <;> simp [Rul.dbl]
theorem sys_dbl (s : Sch) : sys s.dbl = sys s := by
  funext i; simp only [sys, dbl_get]; cases s.rules[i]? <;> rfl
theorem saidTo_dbl (s : Sch) (L : Nat) : ∀ n, saidTo s.dbl L n = saidTo s L n
  | 0 => rfl
  | n + 1 => by funext a; simp only [saidTo, saidTo_dbl s L n, sys_dbl]
theorem topR_dbl (s : Sch) (f : Nat → Bool) (h : ∀ i, -50 ≤ rnk s i) : ∀ n, ((∀ i, i < n → f i = false) ∧ topR s f n = -101 ∧ topR s.dbl f n = -101) ∨ (topR s.dbl f n = 2 * topR s f n ∧ -50 ≤ topR s f n)
  | 0 => .inl ⟨fun i hi => by omega, rfl, rfl⟩
  | n + 1 => by
    have hn := h n
    have hr := rnk_dbl s n
    rcases topR_dbl s f h n with ⟨h1, h2, h3⟩ | ⟨h1, h2⟩
    · cases hf : f n with
      | false =>
        refine .inl ⟨fun i hi => ?_, by simp [topR, hf, h2], by simp [topR, hf, h3]⟩
        rcases Nat.lt_succ_iff_lt_or_eq.1 hi with e | e
        · exact h1 i e
        · rw [e]; exact hf
      | true =>
        have e1 : topR s f (n + 1) = rnk s n := by simp only [topR, hf, h2, Bool.true_and]; rw [if_pos (by simp; omega)]
        have e2 : topR s.dbl f (n + 1) = rnk s.dbl n := by simp only [topR, hf, h3, Bool.true_and]; rw [if_pos (by simp; omega)]
        exact .inr ⟨by rw [e1, e2, hr], by rw [e1]; exact hn⟩
    · refine .inr ?_
      simp only [topR, h1, hr]
      cases hf : f n with
      | false => simp; exact h2
      | true =>
        simp only [Bool.true_and]
        by_cases hlt : topR s f n < rnk s n
        · rw [if_pos (by simp; omega), if_pos (by simpa using hlt)]; exact ⟨rfl, hn⟩
        · rw [if_neg (by simp; omega), if_neg (by simpa using hlt)]; exact ⟨rfl, h2⟩
theorem mainS_dbl (s : Sch) (f : Nat → Bool) (h : ∀ i, -50 ≤ rnk s i) (n i : Nat) (hi : i < n) : mainS s.dbl f n i = mainS s f n i := by
  simp only [mainS, rnk_dbl]
  rcases topR_dbl s f h n with ⟨h1, _, _⟩ | ⟨h1, _⟩
  · rw [h1 i hi]; rfl
  · rw [h1]; congr 1; rw [Bool.eq_iff_iff]; simp only [beq_iff_eq]; omega
/-- no chart is read differently -/
theorem ansN_dbl (s : Sch) (h : ∀ i, -50 ≤ rnk s i) (O : Nat) (kind : Int) (ch : List Int) : ansN s.dbl O kind ch = ansN s O kind ch := by
  have e : mainN s.dbl O kind ch = mainN s O kind ch := by
    simp only [mainN, dbl_len, mainOf, sp_dbl, appl_dbl]
    exact bset_congr fun i hi => mainS_dbl s _ h _ i hi
  simp only [ansN, ansOf, e, dbl_len, saidTo_dbl]
/-- a rule more at the end -/
def Sch.wide (s : Sch) (r : Rul) : Sch := { s with rules := s.rules ++ [r] }
theorem wide_get (s : Sch) (r : Rul) {i : Nat} (h : i < s.rules.length) : (s.wide r).rules[i]? = s.rules[i]? := by
  show (s.rules ++ [r])[i]? = _
  rw [List.getElem?_append_left h]
theorem wide_last (s : Sch) (r : Rul) : (s.wide r).rules[s.rules.length]? = some r := by
  show (s.rules ++ [r])[s.rules.length]? = _
  simp
theorem wide_len (s : Sch) (r : Rul) : (s.wide r).rules.length = s.rules.length + 1 := by simp [Sch.wide]
theorem spks_wide (s : Sch) (r : Rul) (hold : Nat → Bool) (kind : Int) : ∀ n, n ≤ s.rules.length → spks (s.wide r) hold kind n = spks s hold kind n
  | 0, _ => rfl
  | n + 1, h => by
    have ih := spks_wide s r hold kind n (by omega)
    funext i
    simp only [spks, wide_get s r (show n < s.rules.length by omega), ih]
theorem spks_hold (s : Sch) (h1 h2 : Nat → Bool) (kind : Int) : ∀ n, (∀ i, i < n → h1 i = h2 i) → spks s h1 kind n = spks s h2 kind n
  | 0, _ => rfl
  | n + 1, h => by
    have ih := spks_hold s h1 h2 kind n (fun i hi => h i (by omega))
    funext i
    simp only [spks, ih, h n (by omega)]
theorem rnk_wide (s : Sch) (r : Rul) {i : Nat} (h : i < s.rules.length) : rnk (s.wide r) i = rnk s i := by simp only [rnk, wide_get s r h]
theorem sys_wide (s : Sch) (r : Rul) {i : Nat} (h : i < s.rules.length) : sys (s.wide r) i = sys s i := by simp only [sys, wide_get s r h]
theorem topR_cong {s s' : Sch} {f f' : Nat → Bool} : ∀ n, (∀ i, i < n → f i = f' i ∧ rnk s i = rnk s' i) → topR s f n = topR s' f' n
  | 0, _ => rfl
  | n + 1, h => by
    obtain ⟨h1, h2⟩ := h n (by omega)
    simp only [topR, topR_cong n (fun i hi => h i (by omega)), h1, h2]
theorem saidTo_wide (s : Sch) (r : Rul) (L : Nat) : ∀ n, n ≤ s.rules.length → saidTo (s.wide r) L n = saidTo s L n
  | 0, _ => rfl
  | n + 1, h => by funext a; simp only [saidTo, saidTo_wide s r L n (by omega), sys_wide s r (show n < s.rules.length by omega)]
/-- who speaks, of s -/
def spk (s : Sch) (kind : Int) (ch : List Int) : Nat → Bool := sp s (fun i => (bset (appl s ch) s.rules.length).testBit i && !Nat.testBit 0 i) kind
theorem spk_wide (s : Sch) (r : Rul) (kind : Int) (ch : List Int) {i : Nat} (h : i < s.rules.length) : spk (s.wide r) kind ch i = spk s kind ch i := by
  unfold spk sp
  rw [spks_wide s r _ kind (i + 1) (by omega)]
  rw [spks_hold s _ _ kind (i + 1) (fun j hj => ?_)]
  rw [bset_testBit, bset_testBit, wide_len]
  have e : appl (s.wide r) ch j = appl s ch j := by simp only [appl, wide_get s r (show j < s.rules.length by omega)]
  rw [e]
  have h1 : j < s.rules.length := by omega
  have h2 : j < s.rules.length + 1 := by omega
  simp [h1, h2]
theorem mainN_wide (s : Sch) (r : Rul) (kind : Int) (ch : List Int) (h : ∃ i, i < s.rules.length ∧ spk s kind ch i = true) (hr : ∀ i, i < s.rules.length → r.rank < rnk s i) : mainN (s.wide r) 0 kind ch = mainN s 0 kind ch := by
  obtain ⟨i, hi, hs⟩ := h
  have ht : topR (s.wide r) (spk (s.wide r) kind ch) s.rules.length = topR s (spk s kind ch) s.rules.length := topR_cong _ fun j hj => ⟨spk_wide s r kind ch hj, rnk_wide s r hj⟩
  have hle := topR_le s (spk s kind ch) s.rules.length i hi hs
  have hlt := hr i hi
  have hl : rnk (s.wide r) s.rules.length = r.rank := by simp only [rnk, wide_last]
  obtain ⟨h1, h2⟩ := main_old (s := s.wide r) (f := spk (s.wide r) kind ch) (n := s.rules.length) (.inr (by rw [hl, ht]; omega))
  have e1 : mainN (s.wide r) 0 kind ch = bset (mainS (s.wide r) (spk (s.wide r) kind ch) (s.rules.length + 1)) (s.rules.length + 1) := by
    unfold mainN mainOf spk; rw [wide_len]
  have e2 : mainN s 0 kind ch = bset (mainS s (spk s kind ch) s.rules.length) s.rules.length := rfl
  rw [e1, h2, e2]
  refine bset_congr fun j hj => ?_
  simp only [mainS, spk_wide s r kind ch hj, rnk_wide s r hj, ht]
theorem mainN_lt (s : Sch) (O : Nat) (kind : Int) (ch : List Int) : mainN s O kind ch < 2 ^ s.rules.length := bset_lt _ _
/-- where some rule speaks, the rule at the end changes nothing -/
theorem wide_same (s : Sch) (r : Rul) (kind : Int) (ch : List Int) (h : ∃ i, i < s.rules.length ∧ spk s kind ch i = true) (hr : ∀ i, i < s.rules.length → r.rank < rnk s i) :
    mainN (s.wide r) 0 kind ch = mainN s 0 kind ch ∧ ansOf (s.wide r) 0 kind ch = ansOf s 0 kind ch := by
  have e := mainN_wide s r kind ch h hr
  refine ⟨e, ?_⟩
  unfold ansOf
  rw [e, wide_len]
  funext a
  have hb : (mainN s 0 kind ch).testBit s.rules.length = false := Nat.testBit_lt_two_pow (mainN_lt s 0 kind ch)
  simp only [saidTo, hb, Bool.false_and, Bool.or_false, saidTo_wide s r _ s.rules.length (Nat.le_refl _)]
/-- where none speaks, the rule at the end gives one answer at most -/
theorem wide_few (s : Sch) (r : Rul) (kind : Int) (ch : List Int) (h : ∀ i, i < s.rules.length → spk s kind ch i = false) : ∀ a, ansOf (s.wide r) 0 kind ch a = true → a = r.says.toNat := by
  intro a ha
  have hm : ∀ i, i < s.rules.length → (mainN (s.wide r) 0 kind ch).testBit i = false := fun i hi => by
    unfold mainN
    rw [bset_testBit]
    have : mainOf (s.wide r) 0 kind ch i = false := by
      have h1 : spk (s.wide r) kind ch i = false := by rw [spk_wide s r kind ch hi]; exact h i hi
      show mainS (s.wide r) (spk (s.wide r) kind ch) _ i = false
      simp only [mainS, h1, Bool.false_and]
    rw [this, Bool.and_false]
  unfold ansOf at ha
  rw [wide_len] at ha
  have hz : ∀ n, n ≤ s.rules.length → ∀ a, saidTo (s.wide r) (mainN (s.wide r) 0 kind ch) n a = false := by
    intro n
    induction n with
    | zero => intro _ a; rfl
    | succ n ih =>
      intro hn a
      simp only [saidTo, ih (by omega) a, hm n (by omega), Bool.false_and, Bool.or_false]
  simp only [saidTo, hz s.rules.length (Nat.le_refl _) a, Bool.false_or, Bool.and_eq_true, beq_iff_eq] at ha
  rw [ha.2]
  simp only [sys, wide_last]
theorem topR_hit (s : Sch) (f : Nat → Bool) (h : ∀ i, f i = true → -101 < rnk s i) : ∀ n, (∀ i, i < n → f i = false) ∧ topR s f n = -101 ∨ ∃ i, i < n ∧ f i = true ∧ rnk s i = topR s f n
  | 0 => .inl ⟨fun i hi => by omega, rfl⟩
  | n + 1 => by
    rcases topR_hit s f h n with ⟨h1, h2⟩ | ⟨i, h1, h2, h3⟩
    · cases hf : f n with
      | false =>
        refine .inl ⟨fun i hi => ?_, by simp [topR, hf, h2]⟩
        rcases Nat.lt_succ_iff_lt_or_eq.1 hi with e | e
        · exact h1 i e
        · rw [e]; exact hf
      | true =>
        have := h n hf
        exact .inr ⟨n, by omega, hf, by simp only [topR, hf, h2, Bool.true_and]; rw [if_pos (by simp; omega)]⟩
    · refine .inr ?_
      by_cases hc : (f n && decide (topR s f n < rnk s n)) = true
      · simp only [Bool.and_eq_true, decide_eq_true_eq] at hc
        exact ⟨n, by omega, hc.1, by simp only [topR, hc.1, Bool.true_and]; rw [if_pos (by simpa using hc.2)]⟩
      · exact ⟨i, by omega, h2, by simp only [topR]; rw [if_neg hc]; exact h3⟩
theorem saidTo_mem {s : Sch} {L i : Nat} (hL : L.testBit i = true) : ∀ n, i < n → saidTo s L n (sys s i) = true
  | 0, h => by omega
  | n + 1, h => by
    simp only [saidTo]
    rcases Nat.lt_succ_iff_lt_or_eq.1 h with h1 | h1
    · rw [saidTo_mem hL n h1]; rfl
    · subst h1; simp [hL]
/-- where some rule speaks there is an answer -/
theorem loud {s : Sch} {kind : Int} {ch : List Int} (hr : ∀ i, spk s kind ch i = true → -101 < rnk s i) (h : ∃ i, i < s.rules.length ∧ spk s kind ch i = true) : ∃ i, i < s.rules.length ∧ ansOf s 0 kind ch (sys s i) = true := by
  rcases topR_hit s (spk s kind ch) hr s.rules.length with ⟨h1, _⟩ | ⟨i, h1, h2, h3⟩
  · obtain ⟨j, hj, hj2⟩ := h; rw [h1 j hj] at hj2; cases hj2
  · refine ⟨i, h1, saidTo_mem ?_ _ h1⟩
    unfold mainN
    rw [bset_testBit]
    have : mainOf s 0 kind ch i = true := by
      show mainS s (spk s kind ch) s.rules.length i = true
      simp only [mainS, h2, h3, beq_self_eq_true, Bool.and_self]
    rw [this]; simp [h1]
end Go.Proofs.Ytidlmbajpbbilaa

/- The rows' frame: arguments opened, the row's last step. -/
import Derived.Test.YtiikkcifdhcejaaWs
import Derived.Test.YtiikkcifdhcejaaRows
import Derived.Test.YtiikkcifdhcejaaChecked
import Derived.ProofKit
import Derived.Deep.Slices
import Derived.Deep.Fields
import Derived.ChangeSame
import Derived.Below
import Derived.Carry
import Derived.OpenShut
namespace Go.Proofs.Ytiikkcifdhcejaa
open Go.RowKit Go.ChangeShapes Go.WideShapes Go.ChangeAt Go.Deep

theorem spot_of_cell {w : World} {a : Addr} {u : Value} (h : w.cell? a = some u) : a.spot = none := by
  unfold World.cell? at h
  split at h
  · split at h
    · cases h
    · rename_i hs; simpa using hs
  · cases h
/-- a slice of things, each opened by itself -/
theorem sl_of_open {α : Type} (f : α → List Value) (size : Nat) (hsz : 0 < size) (hf : ∀ x, (f x).length = size) {w : World} {a : Addr} (Q : α → Prop) : ∀ (len : Nat), (∀ i, i < len → ∃ x, Q x ∧ ∀ j u, (f x)[j]? = some u → w.cell? (a.add (i * size + j)) = some u) →
    ∃ l : List α, l.length = len ∧ Sl f size w w.heap.size (some a) l ∧ ∀ x ∈ l, Q x := by
  intro len h
  have h' : ∀ i : Fin len, ∃ x, Q x ∧ ∀ j u, (f x)[j]? = some u → w.cell? (a.add (i.1 * size + j)) = some u := fun i => h i.1 i.2
  let g : Fin len → α := fun i => (h' i).choose
  have hg : ∀ i, Q (g i) ∧ ∀ j u, (f (g i))[j]? = some u → w.cell? (a.add (i.1 * size + j)) = some u := fun i => (h' i).choose_spec
  have hlen : (List.ofFn g).length = len := by simp
  refine ⟨List.ofFn g, hlen, ⟨flat_length f size hf _, fun hpos => ?_⟩, fun x hx => ?_⟩
  · rw [hlen] at hpos
    have hc : ∀ (k r : Nat) (hk : k < len) (u : Value), (f (g ⟨k, hk⟩))[r]? = some u → w.cell? (a.add (k * size + r)) = some u := fun k r hk u hu => (hg ⟨k, hk⟩).2 r u hu
    have h0 : 0 < (f (g ⟨0, hpos⟩)).length := by rw [hf]; exact hsz
    have c0 := hc 0 0 hpos _ (List.getElem?_eq_getElem h0)
    have hs : (a.add (0 * size + 0)).spot = none := spot_of_cell c0
    obtain ⟨b, o, sp⟩ := a
    replace hs : sp = none := by simpa [Addr.add] using hs
    subst hs
    refine ⟨b, o, rfl, by have h := World.block_lt_of_cell? w _ c0; rw [Go.WideShapes.add_plain] at h; exact h, fun j u hu => ?_⟩
    have hjl : j < len * size := by
      have h1 := (List.getElem?_eq_some_iff.1 hu).1
      rw [flat_length f size hf, hlen] at h1
      exact h1
    have hk : j / size < len := by rw [Nat.div_lt_iff_lt_mul hsz]; exact hjl
    have hj : j / size * size + j % size = j := by rw [Nat.mul_comm]; exact Nat.div_add_mod j size
    have hfg := flat_get f size hf (List.ofFn g) (j / size) (j % size) (by rw [hlen]; exact hk) (Nat.mod_lt _ hsz)
    rw [hj, hu] at hfg
    have hge : (List.ofFn g)[j / size]'(by rw [hlen]; exact hk) = g ⟨j / size, hk⟩ := by simp
    rw [hge] at hfg
    have := hc (j / size) (j % size) hk u hfg.symm
    rw [hj, Go.WideShapes.add_plain] at this
    exact this
  · obtain ⟨i, rfl⟩ := List.mem_ofFn.1 hx
    exact (hg i).1
section
variable {H : Type} {enc : TypeId × Value → H} {P : Program} {w : World} {base : Nat} {spare : Nat → Bool} {held : Bool}
theorem open_sl {α : Type} (f : α → List Value) (size : Nat) (hsz : 0 < size) (hf : ∀ x, (f x).length = size) (Q : α → Prop) {t e : TypeId} {fuel : Nat} {cs : List Value} {x : DataW H × List MemPlace} (ht : P.underlying t = some (.slice e)) (hC : P.cellsOf e = size)
    (hel : ∀ (n : Nat) (cs' : List Value) (y : DataW H × List MemPlace), DataW.trod enc P w base spare held n e cs' = some y → cs'.length = size → ∃ u, Q u ∧ f u = cs') (h : DataW.trod enc P w base spare held fuel t cs = some x) :
    ∃ A c l, cs = [.slice A l.length c] ∧ Sl f size w w.heap.size A l ∧ (A = none → c = 0) ∧ ∀ u ∈ l, Q u := by
  rcases open_slice ht h with ⟨h0, _⟩ | ⟨a, len, cap, m, n, D, Pl, hcs, hb, hl, hm, hmm, hx, hi⟩
  · exact ⟨none, 0, [], h0, sl_nil, fun _ => rfl, fun u hu => by cases hu⟩
  · obtain ⟨l, hll, hs, hq⟩ := sl_of_open f size hsz hf (w := w) (a := a) Q len fun i hil => by
      obtain ⟨cs', hc, ht'⟩ := hi i (by rw [hmm]; split <;> omega)
      rw [hC] at hc
      obtain ⟨_, hcl, hat⟩ := World.cells?_some hc
      obtain ⟨u, hQ, hu⟩ := hel n cs' _ ht' hcl
      refine ⟨u, hQ, fun j v hv => ?_⟩
      rw [hu] at hv
      have hj : j < size := by have := (List.getElem?_eq_some_iff.1 hv).1; omega
      have := hat j hj
      rw [← Go.Deep.add_add, this, hv]
    exact ⟨some a, cap, l, by rw [hll]; exact hcs, hs, fun e => (by cases e), hq⟩
theorem open_ints {t e : TypeId} {fuel : Nat} {cs : List Value} {x : DataW H × List MemPlace} (ht : P.underlying t = some (.slice e)) (he : P.underlying e = some (.int .i64)) (hC : P.cellsOf e = 1)
    (h : DataW.trod enc P w base spare held fuel t cs = some x) : ∃ A c l, cs = [.slice A l.length c] ∧ Sl intCell 1 w w.heap.size A l ∧ (A = none → c = 0) := by
  obtain ⟨A, c, l, h1, h2, h3, _⟩ := open_sl intCell 1 (by omega) (fun _ => rfl) (fun _ => True) ht hC (fun n cs' y hy _ => by
    obtain ⟨k, rfl, _, _⟩ := DataW.trod_int he hy
    exact ⟨k, trivial, rfl⟩) h
  exact ⟨A, c, l, h1, h2, h3⟩
theorem struct_cells {e : TypeId} {fs : Array Field} {n : Nat} {cs : List Value} {y : DataW H × List MemPlace} (he : P.underlying e = some (.struct fs)) (hone : oneCellFields P fs = true) (hl : cs.length = fs.size)
    (h : DataW.trod enc P w base spare held n e cs = some y) : ∃ m, ∀ (j : Nat) (f : Field), fs[j]? = some f → ∃ v z, cs[j]? = some v ∧ DataW.trod enc P w base spare held m f.type [v] = some z := by
  obtain ⟨ys, n', hn', hy, hlen, hyl, hf⟩ := DataW.trod_struct he h
  refine ⟨n', fun j f hj => ?_⟩
  obtain ⟨ho, hk⟩ := hone_of hone j f hj
  have hjl : j < fs.size := (Array.getElem?_eq_some_iff.1 hj).1
  have h1 := hf j f hj
  rw [ho, hk] at h1
  have hone' : (cs.drop j).take 1 = [cs[j]'(by omega)] := by
    rw [List.drop_eq_getElem_cons (by omega)]; rfl
  rw [hone'] at h1
  have hys : ys[j]? = some (ys[j]'(by omega)) := List.getElem?_eq_getElem (by omega)
  exact ⟨_, _, List.getElem?_eq_getElem (by omega), h1.trans hys⟩
end
theorem u8_wf {n : Int} (h : (Lit.int .u8 n).wf = true) : 0 ≤ n ∧ n < 256 := by
  simp only [Lit.wf, Bool.and_eq_true, decide_eq_true_eq] at h
  have h1 : IntKind.u8.min = 0 := by decide
  have h2 : IntKind.u8.max = 255 := by decide
  rw [h1, h2] at h; omega
theorem own_godebug : ownKnob Try.prog.godebug = none := by kernel_rfl
theorem laidOut_ : laidOutB Try.prog = true := by kernel_rfl
section
variable {H : Type} {enc : TypeId × Value → H}
/-- The row's last step for a law without variables of the package that leaves what was there: results and arguments are given, what was not reached stays by the frame. -/
theorem row_end {f : Func} {c : ChangeSpec} {W W' : World} {args : Array Value} {v : Value} {ds : List (DataW H)} {ps : List MemPlace} (hv : c.vars = [])
    (hW : DataW.Whole enc Try.prog f.params.toList c.vars false W args.toList ds [] ps) (hb : Below W.heap.size W W')
    (hr : DataW.TrodAll enc Try.prog W' W.heap.size (fun _ => false) false f.resultTypes.toList (v.resultList f.resultTypes.size) (c.fn H ds).results [])
    (ha : DataW.TrodAll enc Try.prog W' 0 (fun b => decide (b < W.heap.size)) true f.params.toList args.toList (c.fn H ds).args ps) (hn : (c.fn H ds).vars = []) :
    c.post enc Try.prog f false true false false W args v W' := by
  have hk : W.keptBut W' (· ∈ ps) := hb.frame (· ∈ ps)
  have hd : ds ++ ([] : List (DataW H)) = ds := List.append_nil ds
  unfold ChangeSpec.post
  refine ⟨ds, [], ps, [], ps, [], hW, ?_, ?_, ?_, World.keptBut_mono (fun x hx => ⟨hx, Or.inr (Or.inl hx)⟩) hk, Bool.noConfusion⟩
  · rw [hd]; exact hr
  · rw [hd]; exact ha
  · rw [hd, hv, hn]; exact rfl
theorem open_cap {P : Program} {w : World} {base : Nat} {spare : Nat → Bool} {held : Bool} {t e : TypeId} {fuel : Nat} {A : Option Addr} {n c : Nat} {x : DataW H × List MemPlace} (ht : P.underlying t = some (.slice e)) (h : DataW.trod enc P w base spare held fuel t [.slice A n c] = some x) : n ≤ c := by
  rcases open_slice ht h with ⟨h0, _⟩ | ⟨a, len, cap, m, n', D, Pl, hcs, hb, hl, hm, hmm, hx, hi⟩
  · simp at h0; omega
  · simp at hcs; omega
set_option maxRecDepth 100000 in
theorem arg_ints {W : World} {v : Value} {d : DataW H} {p : List MemPlace} {b0 : Nat} (hv : Value.okWide Try.prog W .any b0 30 v) (h : DataW.Trod enc Try.prog W 0 (fun _ => true) true 30 v d p) : ∃ A c l, v = .slice A l.length c ∧ Sl intCell 1 W W.heap.size A l ∧ (A = none → c = 0) ∧ l.length ≤ c := by
  obtain ⟨fuel, hf⟩ := h
  obtain ⟨A, c, l, h1, h2, h3⟩ := open_ints uInts (by kernel_rfl) (by kernel_rfl) hf
  have hcap : l.length ≤ c := by rw [h1] at hf; exact open_cap uInts hf
  refine ⟨A, c, l, ?_, h2, h3, hcap⟩
  simp only [Value.okWide, uInts, Cell.okWide] at hv
  cases v <;> simp_all [Value.cells, Cell.ok]
set_option maxRecDepth 100000 in
theorem stays {W W' : World} {t : TypeId} (hr : Try.prog.readableRec t = true) (hrow : t < Try.prog.types.size) {v : Value} {d : DataW H} {ps : List MemPlace} {sp : Nat → Bool} (h : DataW.Trod enc Try.prog W 0 (fun _ => true) true t v d ps) (hb : Below W.heap.size W W') (hlt : ∀ x ∈ ps, x.block < W.heap.size) (hsp : ∀ x ∈ ps, sp x.block = true) :
    DataW.Trod enc Try.prog W' 0 sp true t v d ps := WideElems.Trod_stays laidOut_ hr hrow h (fun x hx => hb.same (hlt x hx)) hsp
set_option maxRecDepth 100000 in
theorem arg_int {W : World} {v : Value} {d : DataW H} {p : List MemPlace} {b0 : Nat} (hv : Value.okWide Try.prog W .any b0 3 v) (h : DataW.Trod enc Try.prog W 0 (fun _ => true) true 3 v d p) : ∃ a : Int, v = .int .i64 a := by
  have hu : Try.prog.underlying 3 = some (.int .i64) := by kernel_rfl
  simp only [Value.okWide, hu, Cell.okWide] at hv
  obtain ⟨fuel, hf⟩ := h
  obtain ⟨a, ha, _⟩ := DataW.trod_int hu hf
  cases v <;> simp_all [Value.cells, Cell.ok]
set_option maxRecDepth 100000 in
theorem arg_u8 {W : World} {v : Value} {d : DataW H} {p : List MemPlace} {b0 : Nat} (hv : Value.okWide Try.prog W .any b0 5 v) (h : DataW.Trod enc Try.prog W 0 (fun _ => true) true 5 v d p) : ∃ a : Int, v = .int .u8 a ∧ 0 ≤ a ∧ a < 256 := by
  have hu : Try.prog.underlying 5 = some (.int .u8) := by kernel_rfl
  simp only [Value.okWide, hu, Cell.okWide] at hv
  obtain ⟨fuel, hf⟩ := h
  obtain ⟨a, ha, _, hw⟩ := DataW.trod_int hu hf
  refine ⟨a, ?_, u8_wf hw⟩
  cases v <;> simp_all [Value.cells, Cell.ok]
/-- a struct of two integers -/
theorem open_two {w : World} {base : Nat} {spare : Nat → Bool} {held : Bool} {t : TypeId} {f0 f1 : Field} (he : Try.prog.underlying t = some (.struct #[f0, f1])) (h0 : f0.type = 3) (h1 : f1.type = 3) (hone : oneCellFields Try.prog #[f0, f1] = true) {n : Nat} {cs : List Value} {y : DataW H × List MemPlace} (h : DataW.trod enc Try.prog w base spare held n t cs = some y) (hl : cs.length = 2) : ∃ a b : Int, cs = [.int .i64 a, .int .i64 b] := by
  obtain ⟨m, hf⟩ := struct_cells he hone hl h
  obtain ⟨v0, z0, c0, t0⟩ := hf 0 f0 rfl
  obtain ⟨v1, z1, c1, t1⟩ := hf 1 f1 rfl
  rw [h0] at t0
  rw [h1] at t1
  obtain ⟨a0, e0, _, _⟩ := DataW.trod_int (show Try.prog.underlying _ = some (.int .i64) by kernel_rfl) t0
  obtain ⟨a1, e1, _, _⟩ := DataW.trod_int (show Try.prog.underlying _ = some (.int .i64) by kernel_rfl) t1
  simp only [List.cons.injEq, and_true] at e0 e1
  subst e0 e1
  refine ⟨a0, a1, ?_⟩
  match cs, hl with
  | [x0, x1], _ =>
    simp at c0 c1
    simp [c0, c1]
section
variable {w : World} {base : Nat} {spare : Nat → Bool} {held : Bool}
theorem open_rows {n : Nat} {cs : List Value} {y : DataW H × List MemPlace} (h : DataW.trod enc Try.prog w base spare held n 23 cs = some y) : ∃ A c ls, cs = [.slice A ls.length c] ∧ Lists w w.heap.size A ls ∧ ∀ x ∈ ls, x.a = none → x.c = 0 := by
  obtain ⟨A, c, l, h1, h2, h3, h4⟩ := open_sl LL.cells 1 (by omega) (fun _ => rfl) (fun x : LL => Sl intCell 1 w w.heap.size x.a x.l ∧ (x.a = none → x.c = 0)) uRowsL (by kernel_rfl) (fun n cs' y hy hl => by
    obtain ⟨A, c, l, e, h2, h3⟩ := open_ints uInts (by kernel_rfl) (by kernel_rfl) hy
    exact ⟨⟨A, c, l⟩, ⟨h2, h3⟩, e.symm⟩) h
  exact ⟨A, c, l, h1, ⟨h2, fun x hx => (h4 x hx).1⟩, fun x hx => (h4 x hx).2⟩
theorem open_md {n : Nat} {cs : List Value} {y : DataW H × List MemPlace} (h : DataW.trod enc Try.prog w base spare held n 25 cs = some y) (hl : cs.length = 3) : ∃ x : Md, cs = [.int .i64 x.kind, .slice x.a x.rows.length x.c, .int .i64 x.after] ∧ Lists w w.heap.size x.a x.rows ∧ ∀ r ∈ x.rows, r.a = none → r.c = 0 := by
  obtain ⟨m, hf⟩ := struct_cells Try.underlying25 (by kernel_rfl) hl h
  obtain ⟨v0, z0, c0, t0⟩ := hf 0 _ rfl
  obtain ⟨v1, z1, c1, t1⟩ := hf 1 _ rfl
  obtain ⟨v2, z2, c2, t2⟩ := hf 2 _ rfl
  obtain ⟨a0, e0, _, _⟩ := DataW.trod_int (show Try.prog.underlying _ = some (.int .i64) by kernel_rfl) t0
  obtain ⟨A, c, ls, e1, hls, hn⟩ := open_rows t1
  obtain ⟨a2, e2, _, _⟩ := DataW.trod_int (show Try.prog.underlying _ = some (.int .i64) by kernel_rfl) t2
  simp only [List.cons.injEq, and_true] at e0 e1 e2
  subst e0 e1 e2
  refine ⟨⟨a0, A, c, ls, a2⟩, ?_, hls, hn⟩
  match cs, hl with
  | [x0, x1, x2], _ =>
    simp at c0 c1 c2
    simp [c0, c1, c2]
end
set_option maxRecDepth 100000 in
theorem arg_doubt {W : World} {v : Value} {d : DataW H} {p : List MemPlace} {b0 : Nat} (hv : Value.okWide Try.prog W .any b0 29 v) (h : DataW.Trod enc Try.prog W 0 (fun _ => true) true 29 v d p) :
    ∃ (a b : Md) (c : Ch), v = .agg #[.int .i64 a.kind, .slice a.a a.rows.length a.c, .int .i64 a.after, .int .i64 b.kind, .slice b.a b.rows.length b.c, .int .i64 b.after, .int .i64 c.n, .int .i64 c.d] ∧ Lists W W.heap.size a.a a.rows ∧ Lists W W.heap.size b.a b.rows ∧ (∀ r ∈ a.rows, r.a = none → r.c = 0) ∧ (∀ r ∈ b.rows, r.a = none → r.c = 0) := by
  obtain ⟨cs, rfl, hsz⟩ := okWide_struct Try.underlying29 hv
  obtain ⟨fuel, hf0⟩ := h
  have hC : Try.prog.cellsOf 29 = 8 := by kernel_rfl
  obtain ⟨ys, n', hn', hy, hlen, hyl, hf⟩ := DataW.trod_struct Try.underlying29 hf0
  have q0 : DataW.trod enc Try.prog W 0 (fun _ => true) true n' 25 (((Value.agg cs).cells.toList.drop 0).take (Try.prog.cellsOf 25)) = ys[0]? := hf 0 _ rfl
  have q1 : DataW.trod enc Try.prog W 0 (fun _ => true) true n' 25 (((Value.agg cs).cells.toList.drop 3).take (Try.prog.cellsOf 25)) = ys[1]? := hf 1 _ rfl
  have q2 : DataW.trod enc Try.prog W 0 (fun _ => true) true n' 27 (((Value.agg cs).cells.toList.drop 6).take (Try.prog.cellsOf 27)) = ys[2]? := hf 2 _ rfl
  simp only [Value.cells] at hlen q0 q1 q2
  have k0 : Try.prog.cellsOf 25 = 3 := by kernel_rfl
  have k2 : Try.prog.cellsOf 27 = 2 := by kernel_rfl
  rw [hC] at hlen
  rw [k0] at q0 q1; rw [k2] at q2
  have y0 : ∃ z, ys[0]? = some z := ⟨_, List.getElem?_eq_getElem (by rw [hyl]; decide)⟩
  have y1 : ∃ z, ys[1]? = some z := ⟨_, List.getElem?_eq_getElem (by rw [hyl]; decide)⟩
  have y2 : ∃ z, ys[2]? = some z := ⟨_, List.getElem?_eq_getElem (by rw [hyl]; decide)⟩
  obtain ⟨z0, y0⟩ := y0
  obtain ⟨z1, y1⟩ := y1
  obtain ⟨z2, y2⟩ := y2
  rw [y0] at q0; rw [y1] at q1; rw [y2] at q2
  obtain ⟨l⟩ := cs
  match l, hlen with
  | [v0, v1, v2, v3, v4, v5, v6, v7], _ =>
    simp only [List.drop_zero, List.drop_succ_cons, List.take_succ_cons, List.take_zero] at q0 q1 q2
    obtain ⟨a, ea, la, na⟩ := open_md q0 rfl
    obtain ⟨b, eb, lb, nb⟩ := open_md q1 rfl
    obtain ⟨n, d, ec⟩ := open_two Try.underlying27 rfl rfl (by kernel_rfl) q2 rfl
    simp only [List.cons.injEq, and_true] at ea eb ec
    obtain ⟨rfl, rfl, rfl⟩ := ea
    obtain ⟨rfl, rfl, rfl⟩ := eb
    obtain ⟨rfl, rfl⟩ := ec
    exact ⟨a, b, ⟨n, d⟩, rfl, la, lb, na, nb⟩
end
end Go.Proofs.Ytiikkcifdhcejaa
namespace Go.Proofs.Ytiikkcifdhcejaa
open Go.RowKit Go.ChangeShapes Go.WideShapes Go.ChangeAt Go.Deep

section
variable {H : Type} {enc : TypeId × Value → H}
set_option maxRecDepth 100000 in
theorem arg_model {W : World} {v : Value} {d : DataW H} {p : List MemPlace} {b0 : Nat} (hv : Value.okWide Try.prog W .any b0 25 v) (h : DataW.Trod enc Try.prog W 0 (fun _ => true) true 25 v d p) :
    ∃ a : Md, v = .agg #[.int .i64 a.kind, .slice a.a a.rows.length a.c, .int .i64 a.after] ∧ Lists W W.heap.size a.a a.rows ∧ (∀ r ∈ a.rows, r.a = none → r.c = 0) := by
  obtain ⟨cs, rfl, hsz⟩ := okWide_struct Try.underlying25 hv
  obtain ⟨fuel, hf0⟩ := h
  obtain ⟨l⟩ := cs
  have hC : Try.prog.cellsOf 25 = 3 := by kernel_rfl
  obtain ⟨ys, n', hn', hy, hlen, hyl, hf⟩ := DataW.trod_struct Try.underlying25 hf0
  rw [hC] at hlen
  simp only [Value.cells] at hlen hf0
  obtain ⟨a, ea, la, na⟩ := open_md hf0 hlen
  refine ⟨a, ?_, la, na⟩
  rw [← ea]
end
end Go.Proofs.Ytiikkcifdhcejaa
namespace Go.Proofs.Ytiikkcifdhcejaa
open Go.RowKit

theorem OwR.low {W : World} {base base' : Nat} {v : Value} {ls : List LL} (h : OwR W base v ls) (hb : base' ≤ base) : OwR W base' v ls := ⟨owns_low h.own hb, fun r hr => owns_low (h.rows r hr) hb⟩
/-- the lists of a model lie from lo on -/
def MdHi (lo : Nat) (x : Md) : Prop := (∀ ad, x.a = some ad → lo ≤ ad.block) ∧ ∀ r ∈ x.rows, ∀ ad, r.a = some ad → lo ≤ ad.block
/-- they lie in no block of P -/
def MdAv (P : Nat → Prop) (x : Md) : Prop := (0 < x.rows.length → ∀ ad, x.a = some ad → ¬ P ad.block) ∧ ∀ r ∈ x.rows, 0 < r.l.length → ∀ ad, r.a = some ad → ¬ P ad.block
theorem own_lo {W : World} {base e s n : Nat} {A : Option Addr} {k c : Nat} {xs : List Value} (h : W.ownsRow base e s (.slice A k c) n xs) : ∀ ad, A = some ad → base ≤ ad.block := fun ad e1 => by
  rcases h.2 with ⟨h1, _⟩ | ⟨g, cap, cur, h1, hb, _⟩
  · rw [e1] at h1; cases h1
  · rw [e1] at h1; cases h1; exact hb
theorem OwR.hi {W : World} {base lo : Nat} {A : Option Addr} {n c : Nat} {ls : List LL} {kd af : Int} (h : OwR W base (.slice A n c) ls) (hb : lo ≤ base) : MdHi lo ⟨kd, A, c, ls, af⟩ :=
  ⟨fun ad e => Nat.le_trans hb (own_lo h.own ad e), fun r hr ad e => Nat.le_trans hb (own_lo (h.rows r hr) ad e)⟩
theorem MdHi.av {lo : Nat} {x : Md} {P : Nat → Prop} (h : MdHi lo x) (hp : ∀ r, P r → r < lo) : MdAv P x :=
  ⟨fun _ ad e hq => by have := h.1 ad e; have := hp _ hq; omega, fun r hr _ ad e hq => by have := h.2 r hr ad e; have := hp _ hq; omega⟩
theorem Sl.grownN {α : Type} {f : α → List Value} {size : Nat} {W W' : World} {B : Nat} {A : Option Addr} {l : List α} {row : Option Nat} (h : Sl f size W B A l) (hg : W.grownBy W' row) (hB : B ≤ W.heap.size)
    (hr : 0 < l.length → ∀ ad, A = some ad → some ad.block ≠ row) : Sl f size W' B A l :=
  ⟨h.1, fun hn => by
    obtain ⟨b, o, e, hb, hc⟩ := h.2 hn
    refine ⟨b, o, e, hb, fun j u hu => ?_⟩
    rw [hg.cell_far ⟨b, o + j, none⟩ (by show b < _; omega) (hr hn ⟨b, o, none⟩ e)]
    exact hc j u hu⟩
theorem Sl.inW {α : Type} {f : α → List Value} {size : Nat} {W : World} {B : Nat} {A : Option Addr} {l : List α} (h : Sl f size W B A l) (hn : 0 < l.length) : ∀ ad, A = some ad → ad.block < B := fun ad e => by
  obtain ⟨b, o, e2, hb, _⟩ := h.2 hn
  rw [e] at e2; cases e2; exact hb
theorem Md.reads.grownN {x : Md} {W W' : World} {row : Option Nat} {P : Nat → Prop} (h : x.reads W W.heap.size) (hg : W.grownBy W' row) (ha : MdAv P x) (hp : ∀ r, row = some r → P r) : x.reads W' W'.heap.size := by
  refine Md.reads.more ⟨⟨h.ls.top.grownN hg (Nat.le_refl _) fun hn ad e e2 => ha.1 hn ad e (hp _ e2.symm), fun r hr => (h.ls.row r hr).grownN hg (Nat.le_refl _) fun hn ad e e2 => ha.2 r hr hn ad e (hp _ e2.symm)⟩, h.len, h.rl⟩ hg.size
theorem MdAv.more {x : Md} {W : World} {P P' : Nat → Prop} (ha : MdAv P x) (h : x.reads W W.heap.size) (hp : ∀ r, P' r → P r ∨ W.heap.size ≤ r) : MdAv P' x :=
  ⟨fun hn ad e hq => by
    have h1 := h.ls.top.inW hn ad e
    rcases hp _ hq with h2 | h2
    · exact ha.1 hn ad e h2
    · omega,
  fun r hr hn ad e hq => by
    have h1 := (h.ls.row r hr).inW hn ad e
    rcases hp _ hq with h2 | h2
    · exact ha.2 r hr hn ad e h2
    · omega⟩
/-- rows that lie in blocks of their own, one behind the other -/
def SepR (ls : List LL) : Prop := ls.Pairwise fun r s => ∀ ad ad', r.a = some ad → s.a = some ad' → ad.block < ad'.block
theorem own_lt {W : World} {base e s n k c : Nat} {A : Option Addr} {xs : List Value} (h : W.ownsRow base e s (.slice A k c) n xs) : ∀ ad, A = some ad → ad.block < W.heap.size := fun ad e1 => (h.lt ad.block (by rw [e1]; rfl)).2
theorem SepR.snoc {ls : List LL} {q : LL} {B : Nat} (h : SepR ls) (h1 : ∀ r ∈ ls, ∀ ad, r.a = some ad → ad.block < B) (h2 : ∀ ad, q.a = some ad → B ≤ ad.block) : SepR (ls ++ [q]) := by
  unfold SepR at h ⊢
  rw [List.pairwise_append]
  refine ⟨h, by simp, fun r hr s hs ad ad' e1 e2 => ?_⟩
  rw [List.mem_singleton.1 hs] at e2
  have := h1 r hr ad e1; have := h2 ad' e2; omega
set_option maxRecDepth 100000 in
set_option maxHeartbeats 4000000 in
theorem lownH0_any (kd : Int) (A : Option Addr) (c : Nat) (rows : List LL) (af : Int) (w : World) (hr : (⟨kd, A, c, rows, af⟩ : Md).reads w w.heap.size) (hn : ∀ r ∈ rows, r.a = none → r.c = 0) :
    Calls Try.prog 14 #[.agg #[.int .i64 kd, .slice A rows.length c, .int .i64 af]] w fun e w' => ∃ y : Md, e = .returned (.agg #[.int .i64 y.kind, .slice y.a y.rows.length y.c, .int .i64 y.after]) ∧ y.m = (⟨kd, A, c, rows, af⟩ : Md).m ∧ y.reads w' w'.heap.size ∧ MdHi w.heap.size y ∧ Below w.heap.size w w' ∧ OwR w' w.heap.size (.slice y.a y.rows.length y.c) y.rows ∧ SepR y.rows := by
  obtain ⟨i1, hi1, iy0, iy1, iy2⟩ := info_parts infoRow
  have HR := Lib.hid hr; have HN := Lib.hid hn
  clear hr hn
  go_enter Try.func14, Try.ntmps14
  go_wp2_with fail
  obtain ⟨b1, hb1⟩ : ∃ q, q = w.heap.size := ⟨_, rfl⟩
  rw [← hb1]
  refine gen_w (fun W => Blk W b1 #[.int .i64 kd, .slice A rows.length c, .int .i64 af] 25 ∧ Blk W (b1 + 1) #[.int .i64 0, .slice none 0 0, .int .i64 0] 25 ∧ Blk W (b1 + 1 + 1) #[.int .i64 kd, .slice none 0 0, .int .i64 af] 25 ∧ Below w.heap.size w W) ⟨((Blk.at_ hb1).alloc _).alloc _, (Blk.at_ (by simp [hb1])).alloc _, Blk.at_ (by simp [hb1]), by (repeat (first | exact Below.refl _ _ | assumption | (refine Below.alloc ?_ (by first | omega | (simp; omega) | (simp; done)) _) | (refine Below.setCell ?_ (by first | omega | (simp; omega) | (simp; done)) _) | (refine Below.drew ?_) | (refine belowN ?_ _) | (refine Below.trans ?_ (Below.mono ‹Below _ _ _› (by first | omega | (simp; omega) | (simp; done))))))⟩ ?_
  rintro V ⟨g1, g2, g3, hV⟩
  have hwb : w.heap.size ≤ b1 := by omega
  have HG1 := Lib.hid g1; have HG2 := Lib.hid g2; have HG3 := Lib.hid g3; have HV := Lib.hid hV
  have hvz := g3.lt
  clear g1 g2 g3 hV hb1
  go_loopw [4] (fun i wr => ∃ k : Nat, k ≤ rows.length ∧ i = .int .i64 k ∧ b1 + 1 + 1 < wr.heap.size ∧ Below w.heap.size w wr ∧ Blk wr b1 #[.int .i64 kd, .slice A rows.length c, .int .i64 af] 25 ∧ Blk wr (b1 + 1) #[.int .i64 0, .slice none 0 0, .int .i64 0] 25 ∧ ∃ (v : Value) (ls : List LL), Blk wr (b1 + 1 + 1) #[.int .i64 kd, v, .int .i64 af] 25 ∧ Hid (OwR wr (b1 + 1 + 1 + 1) v ls ∧ ls.length = k ∧ ls.map LL.l = (rows.take k).map LL.l ∧ SepR ls)) (fun i _ => rows.length - (intOf i).toNat)
  case atStart => exact ⟨0, by omega, rfl, hvz, HV.out, HG1.out, HG2.out, .slice none 0 0, [], HG3.out, ⟨⟨by simp [flat], .inl ⟨rfl, by simp⟩⟩, fun r h => by cases h⟩, rfl, rfl, List.Pairwise.nil⟩
  case round =>
    obtain ⟨k, hk, rfl, hz, hw, g1, g2, v, ls, g3, ho⟩ := hrel
    clear HG1 HG2 HG3 HV
    have z1 := g1.cell 1; have z3 := g3.cell 1
    simp at z1 z3
    by_cases hlt : k < rows.length
    · obtain ⟨ab, ao, hae, hblk, hcell, hsl⟩ := (HR.out.below hw).ls.at_ (k := k) hlt
      simp only at hae hcell hsl
      subst hae
      obtain ⟨r, hre⟩ : ∃ r, r = rows[k] := ⟨_, rfl⟩
      rw [← hre] at hcell hsl
      have hrl := HR.out.rl r (by rw [hre]; exact List.getElem_mem hlt)
      have hrn := HN.out r (by rw [hre]; exact List.getElem_mem hlt)
      have HRE := Lib.hid hre
      have hab : ab < wr.heap.size := by have := hw.size; omega
      have HI := Lib.hid (fun W (hW : Below wr.heap.size wr W) => lints_any r.a r.c r.l.length r.l W rfl hrl hrn ((hsl.below (hW.mono hw.size)).more (Nat.le_trans hw.size hW.size)))
      have HO := Lib.hid ho.out.1; have HLEN := Lib.hid ho.out.2.1; have HMAP := Lib.hid ho.out.2.2.1; have HSEP := Lib.hid ho.out.2.2.2
      have hlr := HR.out.len
      simp only at hlr
      have HW := Lib.hid hw; have HG1 := Lib.hid g1; have HG2 := Lib.hid g2; have HG3 := Lib.hid g3
      clear hre hsl ho hw g1 g2 g3 hrn
      go_upto_region 5 with fail
      refine wp_region_noPanic ?_
      refine wp_region_T (S := fun w' => w'.cell? ⟨b1 + 1 + 1, 1, none⟩ = some v ∧ w'.cell? ⟨b1, 1, none⟩ = some (.slice (some ⟨ab, ao, none⟩) rows.length c) ∧ w'.cell? ⟨ab, ao + k, none⟩ = some (.slice r.a r.l.length r.c)) 11 (by kernel_rfl) (by kernel_rfl) (by kernel_rfl) (by kernel_rfl) (by decide) ⟨z3, z1, hcell⟩ (fun hHeld => ?_)
      refine WT.takeD (i := 0) (d := some 17) (v := ?vo0) rfl rfl (by decide) (by kernel_rfl) (by kernel_rfl) (fun _ _ _ h => h) (Or.inl ⟨by rfl, ?ho0⟩) (by assumption) ?ro0
      case ho0 => (intro w hSw; (try dsimp only at hSw); go_simp; (try with_reducible rfl))
      try simp only [Act.put, List.setIfInBounds_toArray, List.set_cons_zero, List.set_cons_succ]
      refine WT.takeD (i := 1) (d := some 18) (v := ?vo1) rfl rfl (by decide) (by kernel_rfl) (by kernel_rfl) (fun _ _ _ h => h) (Or.inl ⟨by rfl, ?ho1⟩) (by assumption) ?ro1
      case ho1 => (intro w hSw; (try dsimp only at hSw); go_simp; (try with_reducible rfl))
      try simp only [Act.put, List.setIfInBounds_toArray, List.set_cons_zero, List.set_cons_succ]
      refine WT.takeD (i := 2) (d := some 19) (v := ?vo2) rfl rfl (by decide) (by kernel_rfl) (by kernel_rfl) (fun _ _ _ h => h) (Or.inl ⟨by rfl, ?ho2⟩) (by assumption) ?ro2
      case ho2 => (intro w hSw; (try dsimp only at hSw); go_simp; (try with_reducible rfl))
      try simp only [Act.put, List.setIfInBounds_toArray, List.set_cons_zero, List.set_cons_succ]
      refine WT.takeD (i := 3) (d := some 20) (v := ?vo3) rfl rfl (by decide) (by kernel_rfl) (by kernel_rfl) (fun _ _ _ h => h) (Or.inl ⟨by rfl, ?ho3⟩) (by assumption) ?ro3
      case ho3 => (intro w hSw; (try dsimp only at hSw); go_simp; (try with_reducible rfl))
      try simp only [Act.put, List.setIfInBounds_toArray, List.set_cons_zero, List.set_cons_succ]
      refine WT.takeD (i := 4) (d := some 21) (v := ?vo4) rfl rfl (by decide) (by kernel_rfl) (by kernel_rfl) (fun _ _ _ h => h) (Or.inl ⟨by rfl, ?ho4⟩) (by assumption) ?ro4
      case ho4 => (intro w hSw; (try dsimp only at hSw); go_simp; (try with_reducible rfl))
      try simp only [Act.put, List.setIfInBounds_toArray, List.set_cons_zero, List.set_cons_succ]
      refine WT.takeD (i := 5) (d := some 22) (v := ?vo5) rfl rfl (by decide) (by kernel_rfl) (by kernel_rfl) (fun _ _ _ h => h) (Or.inl ⟨by rfl, ?ho5⟩) (by assumption) ?ro5
      case ho5 => (intro w hSw; (try dsimp only at hSw); go_simp; (try with_reducible rfl))
      try simp only [Act.put, List.setIfInBounds_toArray, List.set_cons_zero, List.set_cons_succ]
      refine WT.takeD (i := 6) (d := some 23) (v := ?vo6) rfl rfl (by decide) (by kernel_rfl) (by kernel_rfl) (fun _ _ _ h => h) (Or.inl ⟨by rfl, ?ho6⟩) (by assumption) ?ro6
      case ho6 => (intro w hSw; (try dsimp only at hSw); go_simp; (try with_reducible rfl))
      try simp only [Act.put, List.setIfInBounds_toArray, List.set_cons_zero, List.set_cons_succ]
      refine WT.one (i := 7) rfl (by decide) (by kernel_rfl) (fun K hK => ?_)
      go_simp
      refine (HI.out _ (Below.refl _ wr).drew).mono ?_
      rintro _ w1 ⟨B, kc, rfl, hs1, hB1, hkc, hown1, hb1⟩
      have HSE2 : Hid (SepR (ls ++ [⟨B, kc, r.l⟩])) := Lib.hid (HSEP.out.snoc (fun q hq => own_lt (HO.out.rows q hq)) (own_lo hown1))
      have hb1' : Below wr.heap.size wr w1 := (Below.refl _ wr).drew.trans hb1
      have x3 := (hb1'.cell (p := ⟨b1 + 1 + 1, 1, none⟩) hz).trans z3
      have x1 := (hb1'.cell (p := ⟨b1, 1, none⟩) (by show b1 < _; omega)).trans z1
      have xc := (hb1'.cell (p := ⟨ab, ao + k, none⟩) hab).trans hcell
      have hz1 := hb1'.size
      refine hK.out _ _ ⟨x3, x1, xc⟩ (fun hHeld => ?_)
      clear hK K
      refine WT.one (i := 8) rfl (by decide) (by kernel_rfl) (fun K hK => ?_)
      go_simp
      have y3 := (World.cell?_alloc_lt w1 (.cells #[.slice B r.l.length kc] 30) ⟨b1 + 1 + 1, 1, none⟩ (by show b1 + 1 + 1 < _; omega)).trans x3
      have y1 := (World.cell?_alloc_lt w1 (.cells #[.slice B r.l.length kc] 30) ⟨b1, 1, none⟩ (by show b1 < _; omega)).trans x1
      have yc := (World.cell?_alloc_lt w1 (.cells #[.slice B r.l.length kc] 30) ⟨ab, ao + k, none⟩ (by show ab < _; omega)).trans xc
      refine hK.out _ _ ⟨y3, y1, yc⟩ (fun hHeld => ?_)
      clear hK K
      have hal : Below w1.heap.size w1 (w1.alloc (.cells #[.slice B r.l.length kc] 30)) := (Below.refl _ _).alloc (Nat.le_refl _) _
      have ho2 := (HO.out.below hb1').below hal
      have hq2 := own_stp hown1 hal
      have hlen := HLEN.out
      have hzz : b1 + 1 + 1 < (w1.alloc (.cells #[.slice B r.l.length kc] 30)).heap.size := Nat.lt_of_lt_of_le hz (Nat.le_trans hz1 hal.size)
      have hab1 : ab < w1.heap.size := Nat.lt_of_lt_of_le hab hz1
      have hne : ∀ g, v.ownBlock = some g → b1 + 1 + 1 + 1 ≤ g := fun g hg => owns_ge ho2.own hg
      have hn0 : ∀ q, q < b1 + 1 + 1 + 1 → some q ≠ v.ownBlock := fun q hq e => by have := hne q e.symm; omega
      have hg1 := (HG1.out.below hb1' (by omega)).alloc (.cells #[.slice B r.l.length kc] 30)
      have hg2 := (HG2.out.below hb1' (by omega)).alloc (.cells #[.slice B r.l.length kc] 30)
      have hg3 := (HG3.out.below hb1' (by omega)).alloc (.cells #[.slice B r.l.length kc] 30)
      have hbw2 := (HW.out.trans (hb1'.mono HW.out.size)).alloc (by have := HW.out.size; omega) (.cells #[.slice B r.l.length kc] 30)
      refine WT.one (i := 9) rfl (by decide) (by kernel_rfl) (fun K hK => ?_)
      refine step_append_lies _ (by rfl) _ _ _ (by rfl) (b1 + 1 + 1 + 1) 30 i1 (.slice none 0 0) 1 24 uRowsL hi1 iy0 iy1 iy2 rfl (by omega) v ls.length (flat LL.cells ls) (by rfl) ho2.own _ 1 1 [.slice B r.l.length kc] (by rfl) (by rfl) (World.news_of_block (cs := #[.slice B r.l.length kc]) (t := 30) (fr := (0, 0)) (heap_alloc_new w1 _)) (by simp [Value.oneCell']) (by omega) (by unfold maxLen; omega) (by omega) (by simp; omega) _ rfl ?_
      intro gg cap w5 hown5 hgrow hat hgl
      have u3 := (hgrow.cell_far ⟨b1 + 1 + 1, 1, none⟩ hzz (hn0 _ (by show b1 + 1 + 1 < _; omega))).trans y3
      have u1 := (hgrow.cell_far ⟨b1, 1, none⟩ (Nat.lt_trans (by show b1 < b1 + 1 + 1; omega) hzz) (hn0 _ (by show b1 < _; omega))).trans y1
      have uc := (hgrow.cell_far ⟨ab, ao + k, none⟩ (Nat.lt_trans hab1 (by simp)) (hn0 _ (by show ab < _; omega))).trans yc
      have hg1 := hg1.grown hgrow (hn0 _ (by omega))
      have hg2 := hg2.grown hgrow (hn0 _ (by omega))
      have hg3 := hg3.grown hgrow (hn0 _ (by omega))
      have hbw5 := hbw2.grown hgrow (by have := HW.out.size; simp; omega) (fun g hg => by have := hne g hg; omega)
      have ho5 := OwR.append (q := ⟨B, kc, r.l⟩) ho2 hq2 (by show b1 + 1 + 1 + 1 ≤ wr.heap.size; omega) hown5 hgrow
      have f3 := hg3.free 1
      have HO5 := Lib.hid ho5; have HG5 := Lib.hid hg3; have HB5 := Lib.hid hbw5; have HGa := Lib.hid hg1; have HGb := Lib.hid hg2
      clear ho5 hg1 hg2 hg3 hbw5 hbw2 ho2 hq2 hown5 hgrow hat hown1 hb1 hb1' x3 x1 xc y3 y1 yc z3 z1 hcell hne hn0 hal
      refine hK.out _ _ ⟨u3, u1, uc⟩ (fun hHeld => ?_)
      clear hK K
      refine WT.takeD (i := 10) (d := some 27) (v := ?vo10) rfl rfl (by decide) (by kernel_rfl) (by kernel_rfl) (fun _ _ _ h => h) (Or.inl ⟨by rfl, ?ho10⟩) (by assumption) ?ro10
      case ho10 => (intro w hSw; (try dsimp only at hSw); go_simp; (try with_reducible rfl))
      try simp only [Act.put, List.setIfInBounds_toArray, List.set_cons_zero, List.set_cons_succ]
      refine WT.last rfl (by kernel_rfl) (by kernel_rfl) (fun K hK => ?_)
      go_simp
      refine hK.out _ _ ?_
      clear hK K
      refine NoPanic.normal ?_
      have hl5 := HG5.out.lt
      rw [hlen] at HO5
      go_wp2_with fail
      refine ⟨⟨k + 1, by omega, by go_num, by simpa using hl5, HB5.out.setCell (by show w.heap.size ≤ b1 + 1 + 1; omega) _, HGa.out.far ⟨b1 + 1 + 1, 1, none⟩ (by show b1 ≠ b1 + 1 + 1; omega) _, HGb.out.far ⟨b1 + 1 + 1, 1, none⟩ (by show b1 + 1 ≠ b1 + 1 + 1; omega) _, _, ls ++ [⟨B, kc, r.l⟩], ?_, HO5.out.set (by show b1 + 1 + 1 < b1 + 1 + 1 + 1; omega) _, by simp [hlen], ?_, HSE2.out⟩, ?_⟩
      · have := HG5.out.set 1 (.slice (some ⟨gg, 0, none⟩) (ls.length + 1) cap); simp [hlen] at this; exact this
      · rw [List.map_append, HMAP.out, List.take_succ_eq_append_getElem hlt, List.map_append, ← HRE.out]; rfl
      · simp [intOf]; omega
    · obtain rfl : k = rows.length := by omega
      have hm := ho.out.2.2.1
      have HSEP := Lib.hid ho.out.2.2.2
      rw [List.take_length] at hm
      have hlr := HR.out.len
      simp only at hlr
      obtain ⟨A9, c9, rfl, hrd⟩ := ho.out.1.md (by rw [ho.out.2.1]; exact hlr) (fun r hr => by
        have : r.l ∈ rows.map LL.l := by rw [← hm]; exact List.mem_map_of_mem hr
        obtain ⟨q, hq, e⟩ := List.mem_map.1 this
        rw [← e]; exact HR.out.rl q hq) kd af
      have q0 := g3.cell 0; have q1 := g3.cell 1; have q2 := g3.cell 2
      have p0 := g2.cell 0; have p1 := g2.cell 1; have p2 := g2.cell 2; have f0 := g2.free 0; have f1 := g2.free 1; have f2 := g2.free 2
      simp at q0 q1 q2 p0 p1 p2
      have HM := Lib.hid hm; have HG2' := Lib.hid g2; have HW := Lib.hid hw; have HO := Lib.hid ho.out.1; have HLE := Lib.hid ho.out.2.1
      clear ho hm hrd g1 g2 g3 hw
      go_wp2_with fail
      have m2 := ((HG2'.out.set 0 (.int .i64 kd)).set 1 (.slice A9 ls.length c9)).set 2 (.int .i64 af)
      have o2 := ((HO.out.set (p := ⟨b1 + 1, 0, none⟩) (by show b1 + 1 < _; omega) (.int .i64 kd)).set (p := ⟨b1 + 1, 1, none⟩) (by show b1 + 1 < _; omega) (.slice A9 ls.length c9)).set (p := ⟨b1 + 1, 2, none⟩) (by show b1 + 1 < _; omega) (.int .i64 af)
      have w2 := ((HW.out.setCell (p := ⟨b1 + 1, 0, none⟩) (by show w.heap.size ≤ b1 + 1; omega) (.int .i64 kd)).setCell (p := ⟨b1 + 1, 1, none⟩) (by show w.heap.size ≤ b1 + 1; omega) (.slice A9 ls.length c9)).setCell (p := ⟨b1 + 1, 2, none⟩) (by show w.heap.size ≤ b1 + 1; omega) (.int .i64 af)
      simp at m2
      generalize ((wr.setCell ⟨b1 + 1, 0, none⟩ (.int .i64 kd)).setCell ⟨b1 + 1, 1, none⟩ (.slice A9 ls.length c9)).setCell ⟨b1 + 1, 2, none⟩ (.int .i64 af) = W9 at m2 o2 w2 ⊢
      obtain ⟨A8, c8, e8, hrd⟩ := o2.md (by rw [HLE.out]; exact hlr) (fun r hr => by
        have : r.l ∈ rows.map LL.l := by rw [← HM.out]; exact List.mem_map_of_mem hr
        obtain ⟨q, hq, e⟩ := List.mem_map.1 this
        rw [← e]; exact HR.out.rl q hq) kd af
      simp at e8
      obtain ⟨rfl, rfl⟩ := e8
      have t0 := m2.cell 0; have t1 := m2.cell 1; have t2 := m2.cell 2
      simp at t0 t1 t2
      exact bodyPost_ret (v := .agg #[.int .i64 kd, .slice A9 ls.length c9, .int .i64 af]) (by simp [results, Try.results14, go_sem, t0, t1, t2]) rfl ⟨⟨kd, A9, c9, ls, af⟩, rfl, by unfold Md.m; simp only [HM.out], hrd, o2.hi (by omega), w2, o2.low (by omega), HSEP.out⟩
theorem lownH_any (x : Md) (w : World) (hr : x.reads w w.heap.size) (hn : ∀ r ∈ x.rows, r.a = none → r.c = 0) :
    Calls Try.prog 14 #[.agg #[.int .i64 x.kind, .slice x.a x.rows.length x.c, .int .i64 x.after]] w fun e w' => ∃ y : Md, e = .returned (.agg #[.int .i64 y.kind, .slice y.a y.rows.length y.c, .int .i64 y.after]) ∧ y.m = x.m ∧ y.reads w' w'.heap.size ∧ MdHi w.heap.size y ∧ Below w.heap.size w w' := (lownH0_any x.kind x.a x.c x.rows x.after w hr hn).mono fun _ _ ⟨y, h1, h2, h3, h4, h5, _⟩ => ⟨y, h1, h2, h3, h4, h5⟩
theorem lownS_any (x : Md) (w : World) (hr : x.reads w w.heap.size) (hn : ∀ r ∈ x.rows, r.a = none → r.c = 0) :
    Calls Try.prog 14 #[.agg #[.int .i64 x.kind, .slice x.a x.rows.length x.c, .int .i64 x.after]] w fun e w' => ∃ y : Md, e = .returned (.agg #[.int .i64 y.kind, .slice y.a y.rows.length y.c, .int .i64 y.after]) ∧ y.m = x.m ∧ y.reads w' w'.heap.size ∧ MdHi w.heap.size y ∧ Below w.heap.size w w' ∧ OwR w' w.heap.size (.slice y.a y.rows.length y.c) y.rows ∧ SepR y.rows := lownH0_any x.kind x.a x.c x.rows x.after w hr hn
/-- copies that are gathered in a row of one's own -/
structure RlI (w : World) (v : Value) (ys : List Md) (W : World) : Prop where
  own : W.ownsRow w.heap.size 25 3 v ys.length (flat Md.cells ys)
  each : ∀ y ∈ ys, y.reads W W.heap.size
  av : ∀ y ∈ ys, MdAv (fun r => v.ownBlock = some r) y
  hw : Below w.heap.size w W
theorem RlI.below {w : World} {v : Value} {ys : List Md} {W W' : World} (h : RlI w v ys W) (hb : Below W.heap.size W W') : RlI w v ys W' :=
  ⟨own_stp h.own hb, fun y hy => ((h.each y hy).below hb).more hb.size, h.av, h.hw.trans (hb.mono h.hw.size)⟩
/-- one more: it was made at W0, and lies in W -/
theorem RlI.app {w : World} {v v' : Value} {ys : List Md} {y : Md} {W W' : World} {lo : Nat} (h : RlI w v ys W) (hy : y.reads W W.heap.size) (hlo : MdHi lo y) (hv : ∀ r, v.ownBlock = some r → r < lo) (hg : W.grownBy W' v.ownBlock)
    (hown : W'.ownsRow w.heap.size 25 3 v' (ys.length + 1) (flat Md.cells ys ++ y.cells)) (hat : v'.ownBlock = v.ownBlock ∨ v'.ownBlock = some W.heap.size) : RlI w v' (ys ++ [y]) W' := by
  have hp : ∀ r, v'.ownBlock = some r → v.ownBlock = some r ∨ W.heap.size ≤ r := fun r hr => by
    rcases hat with e | e
    · exact .inl (e.symm.trans hr)
    · rw [e] at hr; exact .inr (by cases hr; exact Nat.le_refl _)
  have hya : MdAv (fun r => v.ownBlock = some r) y := hlo.av hv
  refine ⟨by rw [List.length_append, flat_snoc]; exact hown, fun x hx => ?_, fun x hx => ?_, h.hw.grown hg h.hw.size (fun g hg => (h.own.lt g hg).1)⟩
  · rcases List.mem_append.1 hx with hx | hx
    · exact (h.each x hx).grownN hg (h.av x hx) fun r hr => hr
    · rw [List.mem_singleton.1 hx]; exact hy.grownN hg hya fun r hr => hr
  · rcases List.mem_append.1 hx with hx | hx
    · exact (h.av x hx).more (h.each x hx) hp
    · rw [List.mem_singleton.1 hx]; exact hya.more hy hp
theorem RlI.mds {w : World} {v : Value} {ys : List Md} {W : World} (h : RlI w v ys W) : ∃ A c, v = .slice A ys.length c ∧ Mds W W.heap.size A ys := by
  obtain ⟨A, c, e, hs⟩ := Sl.of_own h.own
  exact ⟨A, c, e, hs, h.each⟩
end Go.Proofs.Ytiikkcifdhcejaa

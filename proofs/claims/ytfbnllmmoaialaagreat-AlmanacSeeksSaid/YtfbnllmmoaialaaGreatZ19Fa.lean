/- The rows' frame: arguments opened (slices, schools, sets, numbers), the row's last step. -/
import Derived.Test.YtfbnllmmoaialaaGreatZ00Mem
import Derived.Test.YtfbnllmmoaialaaGreatRows
import Derived.Test.YtfbnllmmoaialaaGreatChecked
import Derived.ProofKit
import Derived.Deep.Slices
import Derived.Deep.Fields
import Derived.ChangeSame
import Derived.Below
import Derived.Carry
import Derived.OpenShut
import Derived.Test.YtfbnllmmoaialaaGreatAm
import Derived.Laws.AppendOwnNone
import Derived.OwnWalk
import Derived.Maps.AppendAt
import Derived.Test.YtfbnllmmoaialaaGreatBe
import Derived.Deep.RegionHeldLaw
import Derived.Deep.AppendLies
namespace Go.Proofs.YtfbnllmmoaialaaGreat
open Go.RowKit Go.ChangeShapes Go.WideShapes Go.ChangeAt Go.Deep

theorem spot_of_cell {w : World} {a : Addr} {u : Value} (h : w.cell? a = some u) : a.spot = none := by
  unfold World.cell? at h
  split at h
  · split at h
    · cases h
    · rename_i hs; simpa using hs
  · cases h
/-- a slice of things, each opened by itself -/
theorem sl_of_open {α : Type} (f : α → List Value) (size : Nat) (hsz : 0 < size) (hf : ∀ x, (f x).length = size) {w : World} {a : Addr} (Q : α → Prop) : ∀ (len : Nat), (∀ i, i < len → ∃ x, Q x ∧ ∀ j u, (f x)[j]? = some u → w.cell? (a.add (i * size + j)) = some u) →
    ∃ l : List α, l.length = len ∧ Sl f size w w.heap.size (some a) l ∧ ∀ x ∈ l, Q x := by
  intro len h
  have h' : ∀ i : Fin len, ∃ x, Q x ∧ ∀ j u, (f x)[j]? = some u → w.cell? (a.add (i.1 * size + j)) = some u := fun i => h i.1 i.2
  let g : Fin len → α := fun i => (h' i).choose
  have hg : ∀ i, Q (g i) ∧ ∀ j u, (f (g i))[j]? = some u → w.cell? (a.add (i.1 * size + j)) = some u := fun i => (h' i).choose_spec
  have hlen : (List.ofFn g).length = len := by simp
  refine ⟨List.ofFn g, hlen, ⟨flat_length f size hf _, fun hpos => ?_⟩, fun x hx => ?_⟩
  · rw [hlen] at hpos
    have hc : ∀ (k r : Nat) (hk : k < len) (u : Value), (f (g ⟨k, hk⟩))[r]? = some u → w.cell? (a.add (k * size + r)) = some u := fun k r hk u hu => (hg ⟨k, hk⟩).2 r u hu
    have h0 : 0 < (f (g ⟨0, hpos⟩)).length := by rw [hf]; exact hsz
    have c0 := hc 0 0 hpos _ (List.getElem?_eq_getElem h0)
    have hs : (a.add (0 * size + 0)).spot = none := spot_of_cell c0
    obtain ⟨b, o, sp⟩ := a
    replace hs : sp = none := by simpa [Addr.add] using hs
    subst hs
    refine ⟨b, o, rfl, by have h := World.block_lt_of_cell? w _ c0; rw [Go.WideShapes.add_plain] at h; exact h, fun j u hu => ?_⟩
    have hjl : j < len * size := by
      have h1 := (List.getElem?_eq_some_iff.1 hu).1
      rw [flat_length f size hf, hlen] at h1
      exact h1
    have hk : j / size < len := by rw [Nat.div_lt_iff_lt_mul hsz]; exact hjl
    have hj : j / size * size + j % size = j := by rw [Nat.mul_comm]; exact Nat.div_add_mod j size
    have hfg := flat_get f size hf (List.ofFn g) (j / size) (j % size) (by rw [hlen]; exact hk) (Nat.mod_lt _ hsz)
    rw [hj, hu] at hfg
    have hge : (List.ofFn g)[j / size]'(by rw [hlen]; exact hk) = g ⟨j / size, hk⟩ := by simp
    rw [hge] at hfg
    have := hc (j / size) (j % size) hk u hfg.symm
    rw [hj, Go.WideShapes.add_plain] at this
    exact this
  · obtain ⟨i, rfl⟩ := List.mem_ofFn.1 hx
    exact (hg i).1
section
variable {H : Type} {enc : TypeId × Value → H} {P : Program} {w : World} {base : Nat} {spare : Nat → Bool} {held : Bool}
theorem open_sl {α : Type} (f : α → List Value) (size : Nat) (hsz : 0 < size) (hf : ∀ x, (f x).length = size) (Q : α → Prop) {t e : TypeId} {fuel : Nat} {cs : List Value} {x : DataW H × List MemPlace} (ht : P.underlying t = some (.slice e)) (hC : P.cellsOf e = size)
    (hel : ∀ (n : Nat) (cs' : List Value) (y : DataW H × List MemPlace), DataW.trod enc P w base spare held n e cs' = some y → cs'.length = size → ∃ u, Q u ∧ f u = cs') (h : DataW.trod enc P w base spare held fuel t cs = some x) :
    ∃ A c l, cs = [.slice A l.length c] ∧ Sl f size w w.heap.size A l ∧ (A = none → c = 0) ∧ ∀ u ∈ l, Q u := by
  rcases open_slice ht h with ⟨h0, _⟩ | ⟨a, len, cap, m, n, D, Pl, hcs, hb, hl, hm, hmm, hx, hi⟩
  · exact ⟨none, 0, [], h0, sl_nil, fun _ => rfl, fun u hu => by cases hu⟩
  · obtain ⟨l, hll, hs, hq⟩ := sl_of_open f size hsz hf (w := w) (a := a) Q len fun i hil => by
      obtain ⟨cs', hc, ht'⟩ := hi i (by rw [hmm]; split <;> omega)
      rw [hC] at hc
      obtain ⟨_, hcl, hat⟩ := World.cells?_some hc
      obtain ⟨u, hQ, hu⟩ := hel n cs' _ ht' hcl
      refine ⟨u, hQ, fun j v hv => ?_⟩
      rw [hu] at hv
      have hj : j < size := by have := (List.getElem?_eq_some_iff.1 hv).1; omega
      have := hat j hj
      rw [← Go.Deep.add_add, this, hv]
    exact ⟨some a, cap, l, by rw [hll]; exact hcs, hs, fun e => (by cases e), hq⟩
theorem open_ints {t e : TypeId} {fuel : Nat} {cs : List Value} {x : DataW H × List MemPlace} (ht : P.underlying t = some (.slice e)) (he : P.underlying e = some (.int .i64)) (hC : P.cellsOf e = 1)
    (h : DataW.trod enc P w base spare held fuel t cs = some x) : ∃ A c l, cs = [.slice A l.length c] ∧ Sl intCell 1 w w.heap.size A l ∧ (A = none → c = 0) := by
  obtain ⟨A, c, l, h1, h2, h3, _⟩ := open_sl intCell 1 (by omega) (fun _ => rfl) (fun _ => True) ht hC (fun n cs' y hy _ => by
    obtain ⟨k, rfl, _, _⟩ := DataW.trod_int he hy
    exact ⟨k, trivial, rfl⟩) h
  exact ⟨A, c, l, h1, h2, h3⟩
theorem struct_cells {e : TypeId} {fs : Array Field} {n : Nat} {cs : List Value} {y : DataW H × List MemPlace} (he : P.underlying e = some (.struct fs)) (hone : oneCellFields P fs = true) (hl : cs.length = fs.size)
    (h : DataW.trod enc P w base spare held n e cs = some y) : ∃ m, ∀ (j : Nat) (f : Field), fs[j]? = some f → ∃ v z, cs[j]? = some v ∧ DataW.trod enc P w base spare held m f.type [v] = some z := by
  obtain ⟨ys, n', hn', hy, hlen, hyl, hf⟩ := DataW.trod_struct he h
  refine ⟨n', fun j f hj => ?_⟩
  obtain ⟨ho, hk⟩ := hone_of hone j f hj
  have hjl : j < fs.size := (Array.getElem?_eq_some_iff.1 hj).1
  have h1 := hf j f hj
  rw [ho, hk] at h1
  have hone' : (cs.drop j).take 1 = [cs[j]'(by omega)] := by
    rw [List.drop_eq_getElem_cons (by omega)]; rfl
  rw [hone'] at h1
  have hys : ys[j]? = some (ys[j]'(by omega)) := List.getElem?_eq_getElem (by omega)
  exact ⟨_, _, List.getElem?_eq_getElem (by omega), h1.trans hys⟩
end
theorem own_godebug : ownKnob Tryz.prog.godebug = none := by kernel_rfl
theorem laidOut_ : laidOutB Tryz.prog = true := by kernel_rfl
section
variable {H : Type} {enc : TypeId × Value → H}
/-- The row's last step for a law without variables of the package that leaves what was there: results and arguments are given, what was not reached stays by the frame. -/
theorem row_end {f : Func} {c : ChangeSpec} {W W' : World} {args : Array Value} {v : Value} {ds : List (DataW H)} {ps : List MemPlace} (hv : c.vars = [])
    (hW : DataW.Whole enc Tryz.prog f.params.toList c.vars false W args.toList ds [] ps) (hb : Below W.heap.size W W')
    (hr : DataW.TrodAll enc Tryz.prog W' W.heap.size (fun _ => false) false f.resultTypes.toList (v.resultList f.resultTypes.size) (c.fn H ds).results [])
    (ha : DataW.TrodAll enc Tryz.prog W' 0 (fun b => decide (b < W.heap.size)) true f.params.toList args.toList (c.fn H ds).args ps) (hn : (c.fn H ds).vars = []) :
    c.post enc Tryz.prog f false true false false W args v W' := by
  have hk : W.keptBut W' (· ∈ ps) := hb.frame (· ∈ ps)
  have hd : ds ++ ([] : List (DataW H)) = ds := List.append_nil ds
  unfold ChangeSpec.post
  refine ⟨ds, [], ps, [], ps, [], hW, ?_, ?_, ?_, World.keptBut_mono (fun x hx => ⟨hx, Or.inr (Or.inl hx)⟩) hk, Bool.noConfusion⟩
  · rw [hd]; exact hr
  · rw [hd]; exact ha
  · rw [hd, hv, hn]; exact rfl
set_option maxRecDepth 100000 in
theorem arg_ints {W : World} {v : Value} {d : DataW H} {p : List MemPlace} {b0 : Nat} (hv : Value.okWide Tryz.prog W .any b0 42 v) (h : DataW.Trod enc Tryz.prog W 0 (fun _ => true) true 42 v d p) : ∃ A c l, v = .slice A l.length c ∧ Sl intCell 1 W W.heap.size A l ∧ (A = none → c = 0) := by
  obtain ⟨fuel, hf⟩ := h
  obtain ⟨A, c, l, h1, h2, h3⟩ := open_ints uInts (by kernel_rfl) (by kernel_rfl) hf
  refine ⟨A, c, l, ?_, h2, h3⟩
  simp only [Value.okWide, uInts, Cell.okWide] at hv
  cases v <;> simp_all [Value.cells, Cell.ok]
set_option maxRecDepth 100000 in
theorem stays {W W' : World} {t : TypeId} (hr : Tryz.prog.readableRec t = true) (hrow : t < Tryz.prog.types.size) {v : Value} {d : DataW H} {ps : List MemPlace} {sp : Nat → Bool} (h : DataW.Trod enc Tryz.prog W 0 (fun _ => true) true t v d ps) (hb : Below W.heap.size W W') (hlt : ∀ x ∈ ps, x.block < W.heap.size) (hsp : ∀ x ∈ ps, sp x.block = true) :
    DataW.Trod enc Tryz.prog W' 0 sp true t v d ps := WideElems.Trod_stays laidOut_ hr hrow h (fun x hx => hb.same (hlt x hx)) hsp
set_option maxRecDepth 100000 in
theorem arg_int {W : World} {v : Value} {d : DataW H} {p : List MemPlace} {b0 : Nat} (hv : Value.okWide Tryz.prog W .any b0 3 v) (h : DataW.Trod enc Tryz.prog W 0 (fun _ => true) true 3 v d p) : ∃ a : Int, v = .int .i64 a := by
  have hu : Tryz.prog.underlying 3 = some (.int .i64) := by kernel_rfl
  simp only [Value.okWide, hu, Cell.okWide] at hv
  obtain ⟨fuel, hf⟩ := h
  obtain ⟨a, ha, _⟩ := DataW.trod_int hu hf
  cases v <;> simp_all [Value.cells, Cell.ok]
theorem u32_wf {n : Int} (h : (Lit.int .u32 n).wf = true) : 0 ≤ n ∧ n < 4294967296 := by
  simp only [Lit.wf, Bool.and_eq_true, decide_eq_true_eq] at h
  have h1 : IntKind.u32.min = 0 := by decide
  have h2 : IntKind.u32.max = 4294967295 := by decide
  rw [h1, h2] at h; omega
set_option maxRecDepth 100000 in
theorem arg_u32 {W : World} {v : Value} {d : DataW H} {p : List MemPlace} {b0 : Nat} (hv : Value.okWide Tryz.prog W .any b0 151 v) (h : DataW.Trod enc Tryz.prog W 0 (fun _ => true) true 151 v d p) : ∃ a : Int, v = .int .u32 a ∧ 0 ≤ a ∧ a < 4294967296 := by
  have hu : Tryz.prog.underlying 151 = some (.int .u32) := by kernel_rfl
  simp only [Value.okWide, hu, Cell.okWide] at hv
  obtain ⟨fuel, hf⟩ := h
  obtain ⟨a, ha, _, hw⟩ := DataW.trod_int hu hf
  refine ⟨a, ?_, u32_wf hw⟩
  cases v <;> simp_all [Value.cells, Cell.ok]
/-- a struct of integers -/
theorem open_nint {w : World} {base : Nat} {spare : Nat → Bool} {held : Bool} {t : TypeId} {fs : Array Field} (he : Tryz.prog.underlying t = some (.struct fs)) (hall : fs.toList.all (fun f => f.type == 3) = true) (hone : oneCellFields Tryz.prog fs = true) {n : Nat} {cs : List Value} {y : DataW H × List MemPlace} (h : DataW.trod enc Tryz.prog w base spare held n t cs = some y) (hl : cs.length = fs.size) :
    ∃ xs : List Int, xs.length = fs.size ∧ cs = xs.map (Value.int .i64) := by
  obtain ⟨m, hf⟩ := struct_cells he hone hl h
  have hx : ∀ j (hj : j < cs.length), ∃ a : Int, cs[j] = .int .i64 a := fun j hj => by
    have hjf : j < fs.size := by omega
    obtain ⟨v, z, hc, ht⟩ := hf j fs[j] (Array.getElem?_eq_getElem hjf)
    have htype : fs[j].type = 3 := by
      have := List.all_eq_true.1 hall fs[j] (by simp)
      simpa using this
    rw [htype] at ht
    obtain ⟨a, e, _, _⟩ := DataW.trod_int (show Tryz.prog.underlying _ = some (.int .i64) by kernel_rfl) ht
    simp only [List.cons.injEq, and_true] at e
    rw [List.getElem?_eq_getElem hj] at hc
    exact ⟨a, by rw [Option.some.inj hc]; exact e⟩
  refine ⟨List.ofFn fun j : Fin cs.length => (hx j.1 j.2).choose, by simp [hl], ?_⟩
  refine List.ext_getElem (by simp) fun j h1 h2 => ?_
  simp only [List.getElem_map, List.getElem_ofFn]
  exact (hx j h1).choose_spec
set_option maxRecDepth 100000 in
theorem arg_sol {W : World} {v : Value} {d : DataW H} {p : List MemPlace} {b0 : Nat} (hv : Value.okWide Tryz.prog W .any b0 24 v) (h : DataW.Trod enc Tryz.prog W 0 (fun _ => true) true 24 v d p) : ∃ a b c : Int, v = .agg #[.int .i64 a, .int .i64 b, .int .i64 c] := by
  obtain ⟨cs, rfl, hsz⟩ := okWide_struct Tryz.underlying24 hv
  obtain ⟨fuel, hf⟩ := h
  have hC : Tryz.prog.cellsOf 24 = 3 := by kernel_rfl
  obtain ⟨xs, h1, h2⟩ := open_nint Tryz.underlying24 (by kernel_rfl) (by kernel_rfl) hf (by simp [Value.cells]; omega)
  match xs, h1 with
  | [a, b, c], _ => exact ⟨a, b, c, by simp only [Value.cells] at h2; obtain ⟨l⟩ := cs; simp at h2; subst h2; rfl⟩
set_option maxRecDepth 100000 in
theorem arg_lun {W : World} {v : Value} {d : DataW H} {p : List MemPlace} {b0 : Nat} (hv : Value.okWide Tryz.prog W .any b0 26 v) (h : DataW.Trod enc Tryz.prog W 0 (fun _ => true) true 26 v d p) : ∃ a b c e f g k : Int, v = .agg #[.int .i64 a, .int .i64 b, .int .i64 c, .int .i64 e, .int .i64 f, .int .i64 g, .int .i64 k] := by
  obtain ⟨cs, rfl, hsz⟩ := okWide_struct Tryz.underlying26 hv
  obtain ⟨fuel, hf⟩ := h
  have hC : Tryz.prog.cellsOf 26 = 7 := by kernel_rfl
  obtain ⟨xs, h1, h2⟩ := open_nint Tryz.underlying26 (by kernel_rfl) (by kernel_rfl) hf (by simp [Value.cells]; omega)
  match xs, h1 with
  | [a, b, c, e, f, g, k], _ => exact ⟨a, b, c, e, f, g, k, by simp only [Value.cells] at h2; obtain ⟨l⟩ := cs; simp at h2; subst h2; rfl⟩
end
end Go.Proofs.YtfbnllmmoaialaaGreat
namespace Go.Proofs.YtfbnllmmoaialaaGreat
open Go.RowKit Go.ChangeShapes Go.WideShapes Go.ChangeAt Go.Deep
section
variable {H : Type} {enc : TypeId × Value → H}
theorem u16_wf {n : Int} (h : (Lit.int .u16 n).wf = true) : 0 ≤ n ∧ n < 65536 := by
  simp only [Lit.wf, Bool.and_eq_true, decide_eq_true_eq] at h
  have h1 : IntKind.u16.min = 0 := by decide
  have h2 : IntKind.u16.max = 65535 := by decide
  rw [h1, h2] at h; omega
end
end Go.Proofs.YtfbnllmmoaialaaGreat
namespace Go.Proofs.YtfbnllmmoaialaaGreat
open Go.RowKit Go.ChangeShapes Go.WideShapes Go.ChangeAt Go.Deep

theorem u8_wf {n : Int} (h : (Lit.int .u8 n).wf = true) : 0 ≤ n ∧ n < 256 := by
  simp only [Lit.wf, Bool.and_eq_true, decide_eq_true_eq] at h
  have h1 : IntKind.u8.min = 0 := by decide
  have h2 : IntKind.u8.max = 255 := by decide
  rw [h1, h2] at h; omega
section
variable {H : Type} {enc : TypeId × Value → H} {w : World} {base : Nat} {spare : Nat → Bool} {held : Bool}
theorem open_cyc {n : Nat} {cs : List Value} {y : DataW H × List MemPlace} (h : DataW.trod enc Tryz.prog w base spare held n 52 cs = some y) (hl : cs.length = 2) : ∃ u : Cyc, True ∧ u.cells = cs := by
  obtain ⟨xs, h1, h2⟩ := open_nint Tryz.underlying52 (by kernel_rfl) (by kernel_rfl) h hl
  match xs, h1 with
  | [a, b], _ => exact ⟨⟨a, b⟩, trivial, h2.symm⟩
theorem uCyclesF : Tryz.prog.underlying 22 = some (.slice 52) := by kernel_rfl
theorem open_cycs {n : Nat} {cs : List Value} {y : DataW H × List MemPlace} (h : DataW.trod enc Tryz.prog w base spare held n 22 cs = some y) : ∃ A c l, cs = [.slice A l.length c] ∧ Sl Cyc.cells 2 w w.heap.size A l ∧ (A = none → c = 0) := by
  obtain ⟨A, c, l, h1, h2, h3, _⟩ := open_sl Cyc.cells 2 (by omega) (fun _ => rfl) (fun _ => True) uCyclesF (by kernel_rfl) (fun n cs' y hy hl => open_cyc hy hl) h
  exact ⟨A, c, l, h1, h2, h3⟩
set_option maxRecDepth 100000 in
theorem arg_cycles {W : World} {v : Value} {d : DataW H} {p : List MemPlace} {b0 : Nat} (hv : Value.okWide Tryz.prog W .any b0 22 v) (h : DataW.Trod enc Tryz.prog W 0 (fun _ => true) true 22 v d p) : ∃ A c l, v = .slice A l.length c ∧ Sl Cyc.cells 2 W W.heap.size A l ∧ (A = none → c = 0) := by
  obtain ⟨fuel, hf⟩ := h
  obtain ⟨A, c, l, h1, h2, h3⟩ := open_cycs hf
  refine ⟨A, c, l, ?_, h2, h3⟩
  simp only [Value.okWide, uCyclesF, Cell.okWide] at hv
  cases v <;> simp_all [Value.cells, Cell.ok]
end
end Go.Proofs.YtfbnllmmoaialaaGreat
namespace Go.Proofs.YtfbnllmmoaialaaGreat
open Go.RowKit Go.ChangeShapes Go.WideShapes Go.ChangeAt Go.Deep
section
variable {H : Type} {enc : TypeId × Value → H}
set_option maxRecDepth 100000 in
theorem arg_sdate {W : World} {v : Value} {d : DataW H} {p : List MemPlace} {b0 : Nat} (hv : Value.okWide Tryz.prog W .any b0 54 v) (h : DataW.Trod enc Tryz.prog W 0 (fun _ => true) true 54 v d p) : ∃ a b c : Int, v = .agg #[.int .i64 a, .int .i64 b, .int .i64 c] := by
  obtain ⟨cs, rfl, hsz⟩ := okWide_struct Tryz.underlying54 hv
  obtain ⟨fuel, hf⟩ := h
  have hC : Tryz.prog.cellsOf 54 = 3 := by kernel_rfl
  obtain ⟨xs, h1, h2⟩ := open_nint Tryz.underlying54 (by kernel_rfl) (by kernel_rfl) hf (by simp [Value.cells]; omega)
  match xs, h1 with
  | [a, b, c], _ => exact ⟨a, b, c, by simp only [Value.cells] at h2; obtain ⟨l⟩ := cs; simp at h2; subst h2; rfl⟩
set_option maxRecDepth 100000 in
theorem arg_span {W : World} {v : Value} {d : DataW H} {p : List MemPlace} {b0 : Nat} (hv : Value.okWide Tryz.prog W .any b0 31 v) (h : DataW.Trod enc Tryz.prog W 0 (fun _ => true) true 31 v d p) : ∃ a b : Int, v = .agg #[.int .i64 a, .int .i64 b] := by
  obtain ⟨cs, rfl, hsz⟩ := okWide_struct Tryz.underlying31 hv
  obtain ⟨fuel, hf⟩ := h
  have hC : Tryz.prog.cellsOf 31 = 2 := by kernel_rfl
  obtain ⟨xs, h1, h2⟩ := open_nint Tryz.underlying31 (by kernel_rfl) (by kernel_rfl) hf (by simp [Value.cells]; omega)
  match xs, h1 with
  | [a, b], _ => exact ⟨a, b, by simp only [Value.cells] at h2; obtain ⟨l⟩ := cs; simp at h2; subst h2; rfl⟩
set_option maxRecDepth 100000 in
theorem arg_ldate {W : World} {v : Value} {d : DataW H} {p : List MemPlace} {b0 : Nat} (hv : Value.okWide Tryz.prog W .any b0 59 v) (h : DataW.Trod enc Tryz.prog W 0 (fun _ => true) true 59 v d p) : ∃ (a b c : Int) (k : Bool), v = .agg #[.int .i64 a, .int .i64 b, .int .i64 c, .bool k] := by
  obtain ⟨cs, rfl, hsz⟩ := okWide_struct Tryz.underlying59 hv
  obtain ⟨fuel, hf0⟩ := h
  have hC : Tryz.prog.cellsOf 59 = 4 := by kernel_rfl
  have hl : (Value.agg cs).cells.toList.length = 4 := by simp [Value.cells]; omega
  obtain ⟨m, hf⟩ := struct_cells Tryz.underlying59 (by kernel_rfl) hl hf0
  obtain ⟨v0, z0, c0, t0⟩ := hf 0 _ rfl
  obtain ⟨v1, z1, c1, t1⟩ := hf 1 _ rfl
  obtain ⟨v2, z2, c2, t2⟩ := hf 2 _ rfl
  obtain ⟨v3, z3, c3, t3⟩ := hf 3 _ rfl
  obtain ⟨a0, e0, _, _⟩ := DataW.trod_int (show Tryz.prog.underlying _ = some (.int .i64) by kernel_rfl) t0
  obtain ⟨a1, e1, _, _⟩ := DataW.trod_int (show Tryz.prog.underlying _ = some (.int .i64) by kernel_rfl) t1
  obtain ⟨a2, e2, _, _⟩ := DataW.trod_int (show Tryz.prog.underlying _ = some (.int .i64) by kernel_rfl) t2
  obtain ⟨a3, e3, _⟩ := DataW.trod_bool (show Tryz.prog.underlying _ = some .bool by kernel_rfl) t3
  simp only [List.cons.injEq, and_true] at e0 e1 e2 e3
  subst e0 e1 e2 e3
  refine ⟨a0, a1, a2, a3, ?_⟩
  simp only [Value.cells] at hl c0 c1 c2 c3
  obtain ⟨l⟩ := cs
  match l, hl with
  | [x0, x1, x2, x3], _ =>
    simp at c0 c1 c2 c3
    simp [c0, c1, c2, c3]
end
end Go.Proofs.YtfbnllmmoaialaaGreat
namespace Go.Proofs.YtfbnllmmoaialaaGreat
open Go.RowKit

theorem infoCyc : (Tryz.prog.info? 52).map (fun i => (i.zero, i.size, i.bytes)) = some (some (.agg #[.int .i64 0, .int .i64 0]), 2, 16) := by kernel_rfl
theorem uCycles : Tryz.prog.underlying 22 = some (.slice 52) := by kernel_rfl
set_option maxRecDepth 100000 in
theorem cycles0_any (A : Option Addr) (c : Nat) (l : List Cyc) (w : World) (hl : l.length ≤ 1000000) (hn : A = none → c = 0) (hok : ∀ u ∈ flat Cyc.cells l, u.oneCell' = true) (hr : Sl Cyc.cells 2 w w.heap.size A l) :
    Calls Tryz.prog 27 #[.slice A l.length c] w (RetOwn 52 Cyc.cells 2 l w) := by
  obtain ⟨i0, hi, iz0, iz1, iz2⟩ := info_parts infoCyc
  have hfl : (flat Cyc.cells l).length = l.length * 2 := hr.1
  cases A with
  | none =>
    obtain rfl : c = 0 := hn rfl
    have h0 : l.length = 0 := by
      rcases Nat.eq_zero_or_pos l.length with h | h
      · exact h
      · obtain ⟨b, o, e, _⟩ := hr.2 h; cases e
    have hl0 : l = [] := List.eq_nil_of_length_eq_zero h0
    subst hl0
    have hown := World.ownsRow_made (e := 52) (size := 2) w #[] 0 (base := w.heap.size) (Nat.le_refl _) (by simp) (by simp)
    have HO := Lib.hid hown
    clear hown hr hfl
    go_enter Tryz.func27, Tryz.ntmps27
    go_wp2_with (at_builtin; refine wpList_append_own_none rfl _ _ 22 rfl w.heap.size 52 i0 2 uCycles hi _ _ _ rfl HO.out rfl ?_)
    go_ret
    exact ⟨_, rfl, by simpa [flat] using HO.out, by (repeat (first | exact Below.refl _ _ | assumption | (refine Below.alloc ?_ (by first | omega | (simp; omega) | (simp; done)) _) | (refine Below.setCell ?_ (by first | omega | (simp; omega) | (simp; done)) _) | (refine Below.drew ?_) | (refine belowN ?_ _) | (refine Below.trans ?_ (Below.mono ‹Below _ _ _› (by first | omega | (simp; omega) | (simp; done))))))⟩
  | some ad =>
    have hcell : ∀ (j : Nat) (u : Value), (flat Cyc.cells l)[j]? = some u → (w.alloc (.cells #[] 52)).cell? (ad.add j) = some u := fun j u hu => by
      have hpos : 0 < l.length := by
        rcases Nat.eq_zero_or_pos l.length with h | h
        · have : l = [] := List.eq_nil_of_length_eq_zero h
          subst this; simp [flat] at hu
        · exact h
      obtain ⟨b, o, e, hb, hc⟩ := hr.2 hpos
      cases e
      have h1 := hc j u hu
      rw [Go.WideShapes.add_plain, ((Below.refl w.heap.size w).alloc (Nat.le_refl _) _).cell (p := ⟨b, o + j, none⟩) hb]
      exact h1
    have hown := World.ownsRow_made (e := 52) (size := 2) w #[] 0 (base := w.heap.size) (Nat.le_refl _) (by simp) (by simp)
    have HO := Lib.hid hown; have HC := Lib.hid hcell; have HFL := Lib.hid hfl; have HOK := Lib.hid hok
    clear hown hcell hfl hr hok hn
    go_enter Tryz.func27, Tryz.ntmps27
    go_wp2_with (at_builtin; refine wpList_append_own _ rfl _ _ 22 rfl w.heap.size 52 i0 (.agg #[.int .i64 0, .int .i64 0]) 2 16 uCycles hi iz0 iz1 iz2 rfl (by decide) _ _ _ rfl HO.out ad l.length c (flat Cyc.cells l) rfl HFL.out HC.out HOK.out (by unfold maxLen; omega) (by omega) (by simp) ?_; intro v' w1 hown1 hgrow _)
    have hb1 : Below w.heap.size w w1 := ((Below.refl _ _).alloc (Nat.le_refl _) _).grown hgrow (by simp) (fun g hg => by cases hg; exact Nat.le_refl _)
    have HO1 := Lib.hid hown1
    clear hown1 hgrow
    go_wp2
    go_ret
    exact ⟨_, rfl, by simpa using HO1.out, hb1⟩
theorem sl_of_ownN {α : Type} {f : α → List Value} {size : Nat} {e : TypeId} {w : World} {base : Nat} {v : Value} {l : List α} (h : w.ownsRow base e size v l.length (flat f l)) : ∃ A c, v = .slice A l.length c ∧ Sl f size w w.heap.size A l ∧ (A = none → c = 0) := by
  rcases h.2 with ⟨rfl, h0⟩ | ⟨g, cap, cur, rfl, hb, hg, hn, hc, hs, ht⟩
  · exact ⟨none, 0, by rw [h0], ⟨h.1, fun hn => by omega⟩, fun _ => rfl⟩
  · obtain ⟨A, c, h1, h2⟩ := Sl.of_own h
    exact ⟨A, c, h1, h2, fun e => by subst e; cases h1⟩
theorem cycles_any (A : Option Addr) (c : Nat) (l : List Cyc) (w : World) (hl : l.length ≤ 1000000) (hn : A = none → c = 0) (hr : Sl Cyc.cells 2 w w.heap.size A l) :
    Calls Tryz.prog 27 #[.slice A l.length c] w fun e w' => ∃ B k, e = .returned (.slice B l.length k) ∧ Sl Cyc.cells 2 w' w'.heap.size B l ∧ (B = none → k = 0) ∧ Below w.heap.size w w' :=
  (cycles0_any A c l w hl hn (by intro u hu; obtain ⟨x, _, hx⟩ := List.mem_flatMap.1 hu; simp [Cyc.cells] at hx; rcases hx with rfl | rfl <;> rfl) hr).mono fun _ _ ⟨v, h1, h2, h3⟩ => by
    obtain ⟨A', c', rfl, h4, h5⟩ := sl_of_ownN h2
    exact ⟨A', c', h1, h4, h5, h3⟩
end Go.Proofs.YtfbnllmmoaialaaGreat
namespace Go.Proofs.YtfbnllmmoaialaaGreat
open Go.RowKit

/-- at a step of a region that draws its order: an append to a row that is owned; nothing may be appended -/
theorem step_append_at {P : Program} {w : World} {ops : Array Oper} {o : Oper} {a : Act} {K : Act → World → Prop} {Q : Exit → Act → World → Prop} {E : Prop} (hgd : o.guard = none) (s x : Operand) (t : TypeId)
    (ho : o.op = .call { callee := .builtin .append, args := #[s, x], argTypes := #[t, t] })
    (base : Nat) (e : TypeId) (i : TypeInfo) (z : Value) (size bytes : Nat) (ht : P.underlying t = some (.slice e)) (hi : P.info? e = some i) (hz : i.zero = some z)
    (hsize : i.size = size) (hby : i.bytes = bytes) (hzs : z.cells.size = size) (hsz : 0 < size)
    (v : Value) (n : Nat) (xs : List Value) (hs : a.eval s = v) (hown : w.ownsRow base e size v n xs)
    (ad : Addr) (m c : Nat) (news : List Value) (hx : a.eval x = .slice (some ad) m c) (hl : news.length = m * size) (hnews : ∀ j u, news[j]? = some u → w.cell? (ad.add j) = some u) (h1 : ∀ u ∈ news, u.oneCell' = true)
    (h63 : n + m ≤ maxLen) (hbytes : (n + m) * bytes ≤ 140737488355328) (hbase : base ≤ w.heap.size)
    (h : ∀ v' w', w'.ownsRow base e size v' (n + m) (xs ++ news) → w.grownBy w' v.ownBlock → K (a.put o.dst v') w') :
    if Region.wanted o (yielded ops a.tmps) = true then Oper.wp P o a w K Q else E := by
  have hw : Region.wanted o (yielded ops a.tmps) = true := by simp [Region.wanted, hgd]
  rw [if_pos hw]
  obtain ⟨v', w', hr, h2, h3, _, _⟩ := run_append_own_at (P := P) w base t o.type e i z size bytes ht hi hz hsize hby hzs hsz v n xs hown ad m c news hl hnews h1 h63 hbytes hbase
  unfold Oper.wp execOp
  simp only [ho, resolve, invoke, builtin, Sem.run_bind, Sem.run_pure, Result.andThen_ok, List.map_toArray, List.map_cons, List.map_nil, hs, hx, hr]
  exact h v' w' h2 h3
theorem step_append_none {P : Program} {w : World} {ops : Array Oper} {o : Oper} {a : Act} {K : Act → World → Prop} {Q : Exit → Act → World → Prop} {E : Prop} (hgd : o.guard = none) (s x : Operand) (t : TypeId)
    (ho : o.op = .call { callee := .builtin .append, args := #[s, x], argTypes := #[t, t] })
    (base : Nat) (e : TypeId) (i : TypeInfo) (size : Nat) (ht : P.underlying t = some (.slice e)) (hi : P.info? e = some i)
    (v : Value) (n : Nat) (xs : List Value) (hs : a.eval s = v) (hown : w.ownsRow base e size v n xs) (hx : a.eval x = .slice none 0 0) (m : Nat) (news : List Value) (hm : m = 0) (hn : news = [])
    (h : ∀ v' w', w'.ownsRow base e size v' (n + m) (xs ++ news) → w.grownBy w' v.ownBlock → K (a.put o.dst v') w') :
    if Region.wanted o (yielded ops a.tmps) = true then Oper.wp P o a w K Q else E := by
  have hw : Region.wanted o (yielded ops a.tmps) = true := by simp [Region.wanted, hgd]
  rw [if_pos hw]
  have hrun := run_append_owned_none (P := P) (w := w) base t o.type e i size ht hi v n xs hown
  unfold Oper.wp
  simp [execOp, ho, resolve, invoke, builtin, hs, hx, hrun, Result.andThen]
  subst hm hn
  exact h v w (by simpa using hown) ⟨rfl, rfl, rfl, Nat.le_refl _, fun k hk _ => rfl⟩
theorem infoTst : (Tryz.prog.info? 90).map (fun i => (i.zero, i.size, i.bytes)) = some (some (.agg #[.int .i64 0, .int .i64 0, .int .u64 0, .int .i64 0, .int .i64 0]), 5, 40) := by kernel_rfl
theorem uTestsL : Tryz.prog.underlying 46 = some (.slice 90) := by kernel_rfl
theorem infoRul : (Tryz.prog.info? 48).map (fun i => (i.zero, i.size, i.bytes)) = some (some (.agg #[.slice none 0 0, .bool false]), 2, 32) := by kernel_rfl
theorem uRulesL : Tryz.prog.underlying 29 = some (.slice 48) := by kernel_rfl
/-- a rule without addresses -/
def DRl.pl (r : DRl) : DRl := ⟨none, 0, r.when_, r.allow⟩
theorem ownsRow_apart {W : World} {b b' s s' n n' : Nat} {e e' : TypeId} {v v' : Value} {xs xs' : List Value} (h : W.ownsRow b e s v n xs) (h' : W.ownsRow b' e' s' v' n' xs') (hne : e ≠ e') : v.ownBlock = none ∨ v.ownBlock ≠ v'.ownBlock := by
  rcases h.2 with ⟨rfl, _⟩ | ⟨g, cap, cur, rfl, _, hg, _⟩
  · exact .inl rfl
  · rcases h'.2 with ⟨rfl, _⟩ | ⟨g', cap', cur', rfl, _, hg', _⟩
    · right; simp [Value.ownBlock]
    · right
      simp only [Value.ownBlock, ne_eq, Option.some.injEq]
      rintro rfl
      rw [hg] at hg'; cases hg'; exact hne rfl
theorem own_mono {W : World} {b e s n : Nat} {v : Value} {xs : List Value} (h : W.ownsRow b e s v n xs) : W.ownsRow 0 e s v n xs := ownsRow_low h (Nat.zero_le _)
theorem own_ge {W : World} {b e s n g : Nat} {v : Value} {xs : List Value} (h : W.ownsRow b e s v n xs) (hg : v.ownBlock = some g) : b ≤ g := (h.lt g hg).1
/-- a rule whose tests are a row -/
structure RowD (W : World) (r : DRl) : Prop where
  row : W.ownsRow 0 90 5 (.slice r.wa r.when_.length r.wc) r.when_.length (flat DTs.cells r.when_)
  len : r.when_.length ≤ 1000000
  set : ∀ t ∈ r.when_, 0 ≤ t.set ∧ t.set < 18446744073709551616
theorem RowD.grown {W W' : World} {r : DRl} (h : RowD W r) {row : Option Nat} (hg : W.grownBy W' row) (hr : ∀ v : Value, (∃ n xs, W.ownsRow 0 90 5 v n xs) → v.ownBlock = none ∨ v.ownBlock ≠ row) : RowD W' r :=
  ⟨h.row.kept hg (hr _ ⟨_, _, h.row⟩), h.len, h.set⟩
theorem RowD.below {W W' : World} {r : DRl} (h : RowD W r) (hb : Below W.heap.size W W') : RowD W' r :=
  h.grown (grown_none hb) fun v _ => by cases hv : v.ownBlock <;> simp
theorem RowD.rul {W : World} {r : DRl} (h : RowD W r) : RulAt W W.heap.size r := by
  obtain ⟨A, c, e, hs⟩ := Sl.of_own h.row
  have e2 : r.wa = A ∧ r.wc = c := by simpa using e
  exact ⟨h.len, h.set, by rw [e2.1]; exact hs⟩
/-- rules with rows of their own are returned -/
def RetRls (l : List DRl) (w : World) (e : Ending) (w' : World) : Prop := ∃ (A : Option Addr) (c : Nat) (l' : List DRl), e = .returned (.slice A l'.length c) ∧ l'.map DRl.pl = l.map DRl.pl ∧ Hid (w'.ownsRow w.heap.size 48 2 (.slice A l'.length c) l'.length (flat DRl.cells l')) ∧ (∀ r ∈ l', RowD w' r) ∧ Below w.heap.size w w'
theorem RetRls.at_ {w w' : World} {A : Option Addr} {c : Nat} {l' : List DRl} (h1 : w'.ownsRow w.heap.size 48 2 (.slice A l'.length c) l'.length (flat DRl.cells l')) (h2 : ∀ r ∈ l', RowD w' r) (hl : l'.length ≤ 1000000) : RlsAt w' w'.heap.size A l' := by
  obtain ⟨A', c', e, hs⟩ := Sl.of_own h1
  have e2 : A = A' ∧ c = c' := by simpa using e
  exact ⟨hl, by rw [e2.1]; exact hs, fun r hr => (h2 r hr).rul⟩
theorem flat_oneD (l : List DTs) : ∀ u ∈ flat DTs.cells l, u.oneCell' = true := by
  intro u hu
  obtain ⟨x, _, hx⟩ := List.mem_flatMap.1 hu
  simp [DTs.cells] at hx
  rcases hx with rfl | rfl | rfl | rfl | rfl <;> rfl
set_option maxRecDepth 100000 in
set_option maxHeartbeats 4000000 in
theorem rules_any (A : Option Addr) (c : Nat) (cs : List DRl) (w : World) (hr : RlsAt w w.heap.size A cs) (h0 : ∀ r ∈ cs, r.wa = none → r.wc = 0) (hl : cs.length ≤ 1000) : Calls Tryz.prog 9 #[.slice A cs.length c] w (RetRls cs w) := by
  obtain ⟨i1, hi1, iy0, iy1, iy2⟩ := info_parts infoRul
  obtain ⟨i0, hi0, iz0, iz1, iz2⟩ := info_parts infoTst
  have HRR := Lib.hid hr; have HN0 := Lib.hid h0
  clear hr h0
  go_enter Tryz.func9, Tryz.ntmps9
  go_upto_region 1 with fail
  go_wp2_with fail
  refine wp_world (fun W => Below w.heap.size w W ∧ w.heap.size < W.heap.size ∧ W.ownsRow w.heap.size 48 2 (.slice (some ⟨w.heap.size, 0, none⟩) 0 0) 0 []) ?_ ?_
  · refine ⟨by (repeat (first | exact Below.refl _ _ | assumption | (refine Below.alloc ?_ (by first | omega | (simp; omega) | (simp; done)) _) | (refine Below.setCell ?_ (by first | omega | (simp; omega) | (simp; done)) _) | (refine Below.drew ?_) | (refine belowN ?_ _) | (refine Below.trans ?_ (Below.mono ‹Below _ _ _› (by first | omega | (simp; omega) | (simp; done)))))), by simp, ?_⟩
    have := World.ownsRow_made (e := 48) (size := 2) w #[] 0 (base := w.heap.size) (by simp) (by simp) (by simp)
    simpa using this
  rintro w0 ⟨hbw, hz0, hown0⟩
  have HO0 := Lib.hid hown0
  go_loopw [3, 4] (fun v i wr => ∃ (j : Nat) (l : List DRl), j ≤ cs.length ∧ i = .int .i64 j ∧ Hid (l.length = j) ∧ Hid (wr.ownsRow w.heap.size 48 2 v l.length (flat DRl.cells l)) ∧ Hid (∀ r ∈ l, RowD wr r) ∧ Hid (l.map DRl.pl = (cs.take j).map DRl.pl) ∧
    Hid (Below w.heap.size w wr) ∧ w.heap.size < wr.heap.size) (fun _ i _ => cs.length - (intOf i).toNat)
  case atStart => exact ⟨0, [], by omega, rfl, rfl, HO0, (fun r hr => by cases hr), rfl, hbw, hz0⟩
  case round =>
    obtain ⟨j, l, hj, rfl, hlj, hown, hrows, hpl, hbr, hzr⟩ := hrel
    by_cases hlt : j < cs.length
    · have hrr := HRR.out.below hbr.out
      obtain ⟨ab, ao, rfl, hblk, hcell⟩ := hrr.sl.at_ (k := j) (fun _ => rfl) hlt
      have hq := hrr.rul _ (List.getElem_mem hlt)
      have hn0 := HN0.out _ (List.getElem_mem hlt)
      have HTK := Lib.hid (List.take_succ_eq_append_getElem hlt)
      obtain ⟨r, hre⟩ : ∃ t, cs[j] = t := ⟨_, rfl⟩
      rw [hre] at hcell hq hn0 HTK
      obtain ⟨qa, qc, ts, al⟩ := r
      have hq2 := hq.len
      have HQ3 := Lib.hid hq.set
      have hq1 := hq.sl
      simp only at hq1 hq2 hn0 HQ3
      have c0 : wr.cell? ⟨ab, ao + j * 2, none⟩ = some (.slice qa ts.length qc) := hcell 0 _ rfl
      have c1 : wr.cell? ⟨ab, ao + j * 2 + 1, none⟩ = some (.bool al) := hcell 1 _ rfl
      have hj0 : (0 : Int) ≤ (j : Int) := by omega
      have hj1 : (j : Int) < (cs.length : Int) := by omega
      have hab : ab < w.heap.size := hblk
      have habr : ab < wr.heap.size := by omega
      have HFL := Lib.hid hq1.1
      have HOC := Lib.hid (flat_oneD ts)
      have hnb : some ab ≠ u3.ownBlock := fun e => by have := own_ge hown.out e.symm; omega
      cases qa with
      | none =>
        obtain rfl : qc = 0 := hn0 rfl
        have hts : ts.length = 0 := by
          rcases Nat.eq_zero_or_pos ts.length with h | h
          · exact h
          · obtain ⟨b, o, e, _⟩ := hq1.2 h; cases e
        have HTL := Lib.hid hts
        have HFN : Hid (flat DTs.cells ts = []) := (by rw [List.eq_nil_of_length_eq_zero hts]; rfl : flat DTs.cells ts = [])
        have c0' : wr.cell? ⟨ab, ao + j * 2, none⟩ = some (.slice none 0 0) := by rw [c0, hts]
        clear hcell hre hrr hq1 hq hn0 hts c0
        have c0 := c0'
        clear c0'
        go_upto_region 5 with fail
        go_region_held_law (fun w' => w'.cell? ⟨ab, ao + j * 2, none⟩ = some (.slice none 0 0) ∧ w'.cell? ⟨ab, ao + j * 2 + 1, none⟩ = some (.bool al))
          (first | exact ⟨c0, c1⟩ | go_keep | (refine ⟨?_, ?_⟩ <;> (rw [hgrow.cell_far _ (by simp; omega) hnb]; simp [*])))
          (first |
            (refine step_append_none (by rfl) _ _ _ (by rfl) wr.heap.size 90 i0 5 uTestsL hi0 _ _ _ (by rfl) (World.ownsRow_made _ #[] 0 (by simp) (by simp) (by simp)) (by rfl) ts.length (flat DTs.cells ts) HTL.out HFN.out ?_; intro v1 w1 hown1 hgrow1; simp only [Nat.zero_add, List.nil_append] at hown1; obtain ⟨A1, k1, rfl⟩ := own_slice hown1; have hyc : Below wr.heap.size wr w1 := (by (repeat (first | exact Below.refl _ _ | assumption | (refine Below.alloc ?_ (by first | omega | (simp; omega) | (simp; done)) _) | (refine Below.setCell ?_ (by first | omega | (simp; omega) | (simp; done)) _) | (refine Below.drew ?_) | (refine belowN ?_ _) | (refine Below.trans ?_ (Below.mono ‹Below _ _ _› (by first | omega | (simp; omega) | (simp; done)))))) : Below wr.heap.size wr _).grown hgrow1 (by simp) (fun g hg => by simp [Value.ownBlock] at hg; omega); have c0 := (hyc.cell (p := ⟨ab, ao + j * 2, none⟩) habr).trans c0; have c1 := (hyc.cell (p := ⟨ab, ao + j * 2 + 1, none⟩) habr).trans c1; have HOW := Lib.hid (hown.out.kept (grown_none hyc) (by cases hv : u3.ownBlock <;> simp)); have HO1 := Lib.hid hown1; have hzc := hyc.size; clear hown1 hgrow1) |
            (refine step_append_lies _ (by rfl) _ _ _ (by rfl) w.heap.size 48 i1 (.agg #[.slice none 0 0, .bool false]) 2 32 uRulesL hi1 iy0 iy1 iy2 rfl (by omega) _ _ _ (by rfl) (HOW.out.alloc _) ⟨w1.heap.size, 0, none⟩ 1 1 [.slice A1 ts.length k1, .bool al] (by rfl) (by rfl) (World.news_of_block (cs := #[.slice A1 ts.length k1, .bool al]) (t := 48) (fr := (0, 0)) (heap_alloc_new w1 _)) (by simp [Value.oneCell']) (by omega) (by have := hlj.out; unfold maxLen; omega) (by have := hlj.out; omega) (by simp; omega) (w1.heap.size + 1) (by simp) ?_; intro gg cap w5 hown5 hgrow hat hgl))
        have hol := hlj.out
        have hb45 : Below w.heap.size wr w5 := ((hyc.mono (by omega)).alloc (by omega) _).grown hgrow (by simp; omega) (fun g hg => own_ge hown.out hg)
        have hbz5 : w1.heap.size < w5.heap.size := by have := hgrow.size; simp at this; omega
        go_wp2
        refine ⟨⟨j + 1, l ++ [⟨A1, k1, ts, al⟩], by omega, by simp, by show _ = _; simp [hol], by show World.ownsRow _ _ _ _ _ _ _; simpa [flat, DRl.cells, hol] using hown5, ?_, ?_, hbr.out.trans (hb45.mono (by omega)), by omega⟩, by simp [intOf]; omega⟩
        · show ∀ r ∈ _, _
          have hA : ∀ q : DRl, RowD (w1.alloc (.cells #[.slice A1 ts.length k1, .bool al] 48)) q → RowD w5 q := fun q hq => hq.grown hgrow fun v ⟨n', xs', h'⟩ =>
            ownsRow_apart h' (HOW.out.alloc (.cells #[.slice A1 ts.length k1, .bool al] 48)) (by decide)
          intro q hq
          rcases List.mem_append.1 hq with hq | hq
          · exact hA q (((hrows.out q hq).below hyc).below ((Below.refl _ _).alloc (Nat.le_refl _) _))
          · obtain rfl : q = _ := by simpa using hq
            exact hA _ (RowD.below (W := w1) ⟨own_mono HO1.out, hq2, HQ3.out⟩ ((Below.refl _ _).alloc (Nat.le_refl _) _))
        · show _ = _
          rw [HTK.out, List.map_append, List.map_append, hpl.out]; rfl
      | some qad =>
        have HNW : Hid (∀ (k : Nat) (u : Value), (flat DTs.cells ts)[k]? = some u → ∀ W, Below wr.heap.size wr W → W.cell? (qad.add k) = some u) := (fun k u hu W hW => by
          have hpos : 0 < ts.length := by
            rcases Nat.eq_zero_or_pos ts.length with h | h
            · have : ts = [] := List.eq_nil_of_length_eq_zero h
              subst this; simp [flat] at hu
            · exact h
          obtain ⟨b, o, e, hb, hc⟩ := hq1.2 hpos
          cases e
          rw [Go.WideShapes.add_plain, hW.cell (p := ⟨b, o + k, none⟩) (by show b < wr.heap.size; omega)]
          exact hc k u hu : ∀ (k : Nat) (u : Value), (flat DTs.cells ts)[k]? = some u → ∀ W, Below wr.heap.size wr W → W.cell? (qad.add k) = some u)
        clear hcell hre hrr hq1 hq hn0
        go_upto_region 5 with fail
        go_region_held_law (fun w' => w'.cell? ⟨ab, ao + j * 2, none⟩ = some (.slice (some qad) ts.length qc) ∧ w'.cell? ⟨ab, ao + j * 2 + 1, none⟩ = some (.bool al))
          (first | exact ⟨c0, c1⟩ | go_keep | (refine ⟨?_, ?_⟩ <;> (rw [hgrow.cell_far _ (by simp; omega) hnb]; simp [*])))
          (first |
            (refine step_append_at (by rfl) _ _ _ (by rfl) wr.heap.size 90 i0 (.agg #[.int .i64 0, .int .i64 0, .int .u64 0, .int .i64 0, .int .i64 0]) 5 40 uTestsL hi0 iz0 iz1 iz2 rfl (by omega) _ _ _ (by rfl) (World.ownsRow_made _ #[] 0 (by simp) (by simp) (by simp)) qad ts.length qc (flat DTs.cells ts) (by rfl) HFL.out (fun k u hu => HNW.out k u hu _ (by (repeat (first | exact Below.refl _ _ | assumption | (refine Below.alloc ?_ (by first | omega | (simp; omega) | (simp; done)) _) | (refine Below.setCell ?_ (by first | omega | (simp; omega) | (simp; done)) _) | (refine Below.drew ?_) | (refine belowN ?_ _) | (refine Below.trans ?_ (Below.mono ‹Below _ _ _› (by first | omega | (simp; omega) | (simp; done)))))))) HOC.out (by unfold maxLen; omega) (by omega) (by simp) ?_; intro v1 w1 hown1 hgrow1; simp only [Nat.zero_add, List.nil_append] at hown1; obtain ⟨A1, k1, rfl⟩ := own_slice hown1; have hyc : Below wr.heap.size wr w1 := (by (repeat (first | exact Below.refl _ _ | assumption | (refine Below.alloc ?_ (by first | omega | (simp; omega) | (simp; done)) _) | (refine Below.setCell ?_ (by first | omega | (simp; omega) | (simp; done)) _) | (refine Below.drew ?_) | (refine belowN ?_ _) | (refine Below.trans ?_ (Below.mono ‹Below _ _ _› (by first | omega | (simp; omega) | (simp; done)))))) : Below wr.heap.size wr _).grown hgrow1 (by simp) (fun g hg => by simp [Value.ownBlock] at hg; omega); have c0 := (hyc.cell (p := ⟨ab, ao + j * 2, none⟩) habr).trans c0; have c1 := (hyc.cell (p := ⟨ab, ao + j * 2 + 1, none⟩) habr).trans c1; have HOW := Lib.hid (hown.out.kept (grown_none hyc) (by cases hv : u3.ownBlock <;> simp)); have HO1 := Lib.hid hown1; have hzc := hyc.size; clear hown1 hgrow1) |
            (refine step_append_lies _ (by rfl) _ _ _ (by rfl) w.heap.size 48 i1 (.agg #[.slice none 0 0, .bool false]) 2 32 uRulesL hi1 iy0 iy1 iy2 rfl (by omega) _ _ _ (by rfl) (HOW.out.alloc _) ⟨w1.heap.size, 0, none⟩ 1 1 [.slice A1 ts.length k1, .bool al] (by rfl) (by rfl) (World.news_of_block (cs := #[.slice A1 ts.length k1, .bool al]) (t := 48) (fr := (0, 0)) (heap_alloc_new w1 _)) (by simp [Value.oneCell']) (by omega) (by have := hlj.out; unfold maxLen; omega) (by have := hlj.out; omega) (by simp; omega) (w1.heap.size + 1) (by simp) ?_; intro gg cap w5 hown5 hgrow hat hgl))
        have hol := hlj.out
        have hb45 : Below w.heap.size wr w5 := ((hyc.mono (by omega)).alloc (by omega) _).grown hgrow (by simp; omega) (fun g hg => own_ge hown.out hg)
        have hbz5 : w1.heap.size < w5.heap.size := by have := hgrow.size; simp at this; omega
        go_wp2
        refine ⟨⟨j + 1, l ++ [⟨A1, k1, ts, al⟩], by omega, by simp, by show _ = _; simp [hol], by show World.ownsRow _ _ _ _ _ _ _; simpa [flat, DRl.cells, hol] using hown5, ?_, ?_, hbr.out.trans (hb45.mono (by omega)), by omega⟩, by simp [intOf]; omega⟩
        · show ∀ r ∈ _, _
          have hA : ∀ q : DRl, RowD (w1.alloc (.cells #[.slice A1 ts.length k1, .bool al] 48)) q → RowD w5 q := fun q hq => hq.grown hgrow fun v ⟨n', xs', h'⟩ =>
            ownsRow_apart h' (HOW.out.alloc (.cells #[.slice A1 ts.length k1, .bool al] 48)) (by decide)
          intro q hq
          rcases List.mem_append.1 hq with hq | hq
          · exact hA q (((hrows.out q hq).below hyc).below ((Below.refl _ _).alloc (Nat.le_refl _) _))
          · obtain rfl : q = _ := by simpa using hq
            exact hA _ (RowD.below (W := w1) ⟨own_mono HO1.out, hq2, HQ3.out⟩ ((Below.refl _ _).alloc (Nat.le_refl _) _))
        · show _ = _
          rw [HTK.out, List.map_append, List.map_append, hpl.out]; rfl
    · obtain rfl : j = cs.length := by omega
      have hjl := hlj.out
      obtain ⟨A', c', hv⟩ := own_slice hown.out
      subst hv
      have HP := hpl
      go_wp2_with fail
      go_ret
      exact ⟨A', c', l, rfl, by rw [HP.out, List.take_length], hown, hrows.out, hbr.out⟩
end Go.Proofs.YtfbnllmmoaialaaGreat

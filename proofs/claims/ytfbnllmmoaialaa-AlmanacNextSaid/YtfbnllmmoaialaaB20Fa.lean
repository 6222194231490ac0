/- The rows' frame: arguments opened (slices, schools, sets, numbers), the row's last step. -/
import Derived.Test.YtfbnllmmoaialaaB00Mem
import Derived.Test.YtfbnllmmoaialaaRows
import Derived.Test.YtfbnllmmoaialaaChecked
import Derived.ProofKit
import Derived.Deep.Slices
import Derived.Deep.Fields
import Derived.ChangeSame
import Derived.Below
import Derived.Carry
import Derived.OpenShut
import Derived.Test.YtfbnllmmoaialaaBe
import Derived.Test.YtfbnllmmoaialaaB13Ar
namespace Go.Proofs.Ytfbnllmmoaialaa
open Go.RowKit Go.ChangeShapes Go.WideShapes Go.ChangeAt Go.Deep

theorem spot_of_cell {w : World} {a : Addr} {u : Value} (h : w.cell? a = some u) : a.spot = none := by
  unfold World.cell? at h
  split at h
  · split at h
    · cases h
    · rename_i hs; simpa using hs
  · cases h
/-- a slice of things, each opened by itself -/
theorem sl_of_open {α : Type} (f : α → List Value) (size : Nat) (hsz : 0 < size) (hf : ∀ x, (f x).length = size) {w : World} {a : Addr} (Q : α → Prop) : ∀ (len : Nat), (∀ i, i < len → ∃ x, Q x ∧ ∀ j u, (f x)[j]? = some u → w.cell? (a.add (i * size + j)) = some u) →
    ∃ l : List α, l.length = len ∧ Sl f size w w.heap.size (some a) l ∧ ∀ x ∈ l, Q x := by
  intro len h
  have h' : ∀ i : Fin len, ∃ x, Q x ∧ ∀ j u, (f x)[j]? = some u → w.cell? (a.add (i.1 * size + j)) = some u := fun i => h i.1 i.2
  let g : Fin len → α := fun i => (h' i).choose
  have hg : ∀ i, Q (g i) ∧ ∀ j u, (f (g i))[j]? = some u → w.cell? (a.add (i.1 * size + j)) = some u := fun i => (h' i).choose_spec
  have hlen : (List.ofFn g).length = len := by simp
  refine ⟨List.ofFn g, hlen, ⟨flat_length f size hf _, fun hpos => ?_⟩, fun x hx => ?_⟩
  · rw [hlen] at hpos
    have hc : ∀ (k r : Nat) (hk : k < len) (u : Value), (f (g ⟨k, hk⟩))[r]? = some u → w.cell? (a.add (k * size + r)) = some u := fun k r hk u hu => (hg ⟨k, hk⟩).2 r u hu
    have h0 : 0 < (f (g ⟨0, hpos⟩)).length := by rw [hf]; exact hsz
    have c0 := hc 0 0 hpos _ (List.getElem?_eq_getElem h0)
    have hs : (a.add (0 * size + 0)).spot = none := spot_of_cell c0
    obtain ⟨b, o, sp⟩ := a
    replace hs : sp = none := by simpa [Addr.add] using hs
    subst hs
    refine ⟨b, o, rfl, by have h := World.block_lt_of_cell? w _ c0; rw [Go.WideShapes.add_plain] at h; exact h, fun j u hu => ?_⟩
    have hjl : j < len * size := by
      have h1 := (List.getElem?_eq_some_iff.1 hu).1
      rw [flat_length f size hf, hlen] at h1
      exact h1
    have hk : j / size < len := by rw [Nat.div_lt_iff_lt_mul hsz]; exact hjl
    have hj : j / size * size + j % size = j := by rw [Nat.mul_comm]; exact Nat.div_add_mod j size
    have hfg := flat_get f size hf (List.ofFn g) (j / size) (j % size) (by rw [hlen]; exact hk) (Nat.mod_lt _ hsz)
    rw [hj, hu] at hfg
    have hge : (List.ofFn g)[j / size]'(by rw [hlen]; exact hk) = g ⟨j / size, hk⟩ := by simp
    rw [hge] at hfg
    have := hc (j / size) (j % size) hk u hfg.symm
    rw [hj, Go.WideShapes.add_plain] at this
    exact this
  · obtain ⟨i, rfl⟩ := List.mem_ofFn.1 hx
    exact (hg i).1
section
variable {H : Type} {enc : TypeId × Value → H} {P : Program} {w : World} {base : Nat} {spare : Nat → Bool} {held : Bool}
theorem open_sl {α : Type} (f : α → List Value) (size : Nat) (hsz : 0 < size) (hf : ∀ x, (f x).length = size) (Q : α → Prop) {t e : TypeId} {fuel : Nat} {cs : List Value} {x : DataW H × List MemPlace} (ht : P.underlying t = some (.slice e)) (hC : P.cellsOf e = size)
    (hel : ∀ (n : Nat) (cs' : List Value) (y : DataW H × List MemPlace), DataW.trod enc P w base spare held n e cs' = some y → cs'.length = size → ∃ u, Q u ∧ f u = cs') (h : DataW.trod enc P w base spare held fuel t cs = some x) :
    ∃ A c l, cs = [.slice A l.length c] ∧ Sl f size w w.heap.size A l ∧ (A = none → c = 0) ∧ ∀ u ∈ l, Q u := by
  rcases open_slice ht h with ⟨h0, _⟩ | ⟨a, len, cap, m, n, D, Pl, hcs, hb, hl, hm, hmm, hx, hi⟩
  · exact ⟨none, 0, [], h0, sl_nil, fun _ => rfl, fun u hu => by cases hu⟩
  · obtain ⟨l, hll, hs, hq⟩ := sl_of_open f size hsz hf (w := w) (a := a) Q len fun i hil => by
      obtain ⟨cs', hc, ht'⟩ := hi i (by rw [hmm]; split <;> omega)
      rw [hC] at hc
      obtain ⟨_, hcl, hat⟩ := World.cells?_some hc
      obtain ⟨u, hQ, hu⟩ := hel n cs' _ ht' hcl
      refine ⟨u, hQ, fun j v hv => ?_⟩
      rw [hu] at hv
      have hj : j < size := by have := (List.getElem?_eq_some_iff.1 hv).1; omega
      have := hat j hj
      rw [← Go.Deep.add_add, this, hv]
    exact ⟨some a, cap, l, by rw [hll]; exact hcs, hs, fun e => (by cases e), hq⟩
theorem open_ints {t e : TypeId} {fuel : Nat} {cs : List Value} {x : DataW H × List MemPlace} (ht : P.underlying t = some (.slice e)) (he : P.underlying e = some (.int .i64)) (hC : P.cellsOf e = 1)
    (h : DataW.trod enc P w base spare held fuel t cs = some x) : ∃ A c l, cs = [.slice A l.length c] ∧ Sl intCell 1 w w.heap.size A l ∧ (A = none → c = 0) := by
  obtain ⟨A, c, l, h1, h2, h3, _⟩ := open_sl intCell 1 (by omega) (fun _ => rfl) (fun _ => True) ht hC (fun n cs' y hy _ => by
    obtain ⟨k, rfl, _, _⟩ := DataW.trod_int he hy
    exact ⟨k, trivial, rfl⟩) h
  exact ⟨A, c, l, h1, h2, h3⟩
theorem struct_cells {e : TypeId} {fs : Array Field} {n : Nat} {cs : List Value} {y : DataW H × List MemPlace} (he : P.underlying e = some (.struct fs)) (hone : oneCellFields P fs = true) (hl : cs.length = fs.size)
    (h : DataW.trod enc P w base spare held n e cs = some y) : ∃ m, ∀ (j : Nat) (f : Field), fs[j]? = some f → ∃ v z, cs[j]? = some v ∧ DataW.trod enc P w base spare held m f.type [v] = some z := by
  obtain ⟨ys, n', hn', hy, hlen, hyl, hf⟩ := DataW.trod_struct he h
  refine ⟨n', fun j f hj => ?_⟩
  obtain ⟨ho, hk⟩ := hone_of hone j f hj
  have hjl : j < fs.size := (Array.getElem?_eq_some_iff.1 hj).1
  have h1 := hf j f hj
  rw [ho, hk] at h1
  have hone' : (cs.drop j).take 1 = [cs[j]'(by omega)] := by
    rw [List.drop_eq_getElem_cons (by omega)]; rfl
  rw [hone'] at h1
  have hys : ys[j]? = some (ys[j]'(by omega)) := List.getElem?_eq_getElem (by omega)
  exact ⟨_, _, List.getElem?_eq_getElem (by omega), h1.trans hys⟩
end
theorem own_godebug : ownKnob Try.prog.godebug = none := by kernel_rfl
theorem laidOut_ : laidOutB Try.prog = true := by kernel_rfl
section
variable {H : Type} {enc : TypeId × Value → H}
/-- The row's last step for a law without variables of the package that leaves what was there: results and arguments are given, what was not reached stays by the frame. -/
theorem row_end {f : Func} {c : ChangeSpec} {W W' : World} {args : Array Value} {v : Value} {ds : List (DataW H)} {ps : List MemPlace} (hv : c.vars = [])
    (hW : DataW.Whole enc Try.prog f.params.toList c.vars false W args.toList ds [] ps) (hb : Below W.heap.size W W')
    (hr : DataW.TrodAll enc Try.prog W' W.heap.size (fun _ => false) false f.resultTypes.toList (v.resultList f.resultTypes.size) (c.fn H ds).results [])
    (ha : DataW.TrodAll enc Try.prog W' 0 (fun b => decide (b < W.heap.size)) true f.params.toList args.toList (c.fn H ds).args ps) (hn : (c.fn H ds).vars = []) :
    c.post enc Try.prog f false true false false W args v W' := by
  have hk : W.keptBut W' (· ∈ ps) := hb.frame (· ∈ ps)
  have hd : ds ++ ([] : List (DataW H)) = ds := List.append_nil ds
  unfold ChangeSpec.post
  refine ⟨ds, [], ps, [], ps, [], hW, ?_, ?_, ?_, World.keptBut_mono (fun x hx => ⟨hx, Or.inr (Or.inl hx)⟩) hk, Bool.noConfusion⟩
  · rw [hd]; exact hr
  · rw [hd]; exact ha
  · rw [hd, hv, hn]; exact rfl
set_option maxRecDepth 100000 in
theorem arg_ints {W : World} {v : Value} {d : DataW H} {p : List MemPlace} {b0 : Nat} (hv : Value.okWide Try.prog W .any b0 38 v) (h : DataW.Trod enc Try.prog W 0 (fun _ => true) true 38 v d p) : ∃ A c l, v = .slice A l.length c ∧ Sl intCell 1 W W.heap.size A l ∧ (A = none → c = 0) := by
  obtain ⟨fuel, hf⟩ := h
  obtain ⟨A, c, l, h1, h2, h3⟩ := open_ints uInts (by kernel_rfl) (by kernel_rfl) hf
  refine ⟨A, c, l, ?_, h2, h3⟩
  simp only [Value.okWide, uInts, Cell.okWide] at hv
  cases v <;> simp_all [Value.cells, Cell.ok]
set_option maxRecDepth 100000 in
theorem stays {W W' : World} {t : TypeId} (hr : Try.prog.readableRec t = true) (hrow : t < Try.prog.types.size) {v : Value} {d : DataW H} {ps : List MemPlace} {sp : Nat → Bool} (h : DataW.Trod enc Try.prog W 0 (fun _ => true) true t v d ps) (hb : Below W.heap.size W W') (hlt : ∀ x ∈ ps, x.block < W.heap.size) (hsp : ∀ x ∈ ps, sp x.block = true) :
    DataW.Trod enc Try.prog W' 0 sp true t v d ps := WideElems.Trod_stays laidOut_ hr hrow h (fun x hx => hb.same (hlt x hx)) hsp
set_option maxRecDepth 100000 in
theorem arg_int {W : World} {v : Value} {d : DataW H} {p : List MemPlace} {b0 : Nat} (hv : Value.okWide Try.prog W .any b0 3 v) (h : DataW.Trod enc Try.prog W 0 (fun _ => true) true 3 v d p) : ∃ a : Int, v = .int .i64 a := by
  have hu : Try.prog.underlying 3 = some (.int .i64) := by kernel_rfl
  simp only [Value.okWide, hu, Cell.okWide] at hv
  obtain ⟨fuel, hf⟩ := h
  obtain ⟨a, ha, _⟩ := DataW.trod_int hu hf
  cases v <;> simp_all [Value.cells, Cell.ok]
theorem u32_wf {n : Int} (h : (Lit.int .u32 n).wf = true) : 0 ≤ n ∧ n < 4294967296 := by
  simp only [Lit.wf, Bool.and_eq_true, decide_eq_true_eq] at h
  have h1 : IntKind.u32.min = 0 := by decide
  have h2 : IntKind.u32.max = 4294967295 := by decide
  rw [h1, h2] at h; omega
set_option maxRecDepth 100000 in
theorem arg_u32 {W : World} {v : Value} {d : DataW H} {p : List MemPlace} {b0 : Nat} (hv : Value.okWide Try.prog W .any b0 101 v) (h : DataW.Trod enc Try.prog W 0 (fun _ => true) true 101 v d p) : ∃ a : Int, v = .int .u32 a ∧ 0 ≤ a ∧ a < 4294967296 := by
  have hu : Try.prog.underlying 101 = some (.int .u32) := by kernel_rfl
  simp only [Value.okWide, hu, Cell.okWide] at hv
  obtain ⟨fuel, hf⟩ := h
  obtain ⟨a, ha, _, hw⟩ := DataW.trod_int hu hf
  refine ⟨a, ?_, u32_wf hw⟩
  cases v <;> simp_all [Value.cells, Cell.ok]
/-- a struct of integers -/
theorem open_nint {w : World} {base : Nat} {spare : Nat → Bool} {held : Bool} {t : TypeId} {fs : Array Field} (he : Try.prog.underlying t = some (.struct fs)) (hall : fs.toList.all (fun f => f.type == 3) = true) (hone : oneCellFields Try.prog fs = true) {n : Nat} {cs : List Value} {y : DataW H × List MemPlace} (h : DataW.trod enc Try.prog w base spare held n t cs = some y) (hl : cs.length = fs.size) :
    ∃ xs : List Int, xs.length = fs.size ∧ cs = xs.map (Value.int .i64) := by
  obtain ⟨m, hf⟩ := struct_cells he hone hl h
  have hx : ∀ j (hj : j < cs.length), ∃ a : Int, cs[j] = .int .i64 a := fun j hj => by
    have hjf : j < fs.size := by omega
    obtain ⟨v, z, hc, ht⟩ := hf j fs[j] (Array.getElem?_eq_getElem hjf)
    have htype : fs[j].type = 3 := by
      have := List.all_eq_true.1 hall fs[j] (by simp)
      simpa using this
    rw [htype] at ht
    obtain ⟨a, e, _, _⟩ := DataW.trod_int (show Try.prog.underlying _ = some (.int .i64) by kernel_rfl) ht
    simp only [List.cons.injEq, and_true] at e
    rw [List.getElem?_eq_getElem hj] at hc
    exact ⟨a, by rw [Option.some.inj hc]; exact e⟩
  refine ⟨List.ofFn fun j : Fin cs.length => (hx j.1 j.2).choose, by simp [hl], ?_⟩
  refine List.ext_getElem (by simp) fun j h1 h2 => ?_
  simp only [List.getElem_map, List.getElem_ofFn]
  exact (hx j h1).choose_spec
set_option maxRecDepth 100000 in
theorem arg_sol {W : World} {v : Value} {d : DataW H} {p : List MemPlace} {b0 : Nat} (hv : Value.okWide Try.prog W .any b0 24 v) (h : DataW.Trod enc Try.prog W 0 (fun _ => true) true 24 v d p) : ∃ a b c : Int, v = .agg #[.int .i64 a, .int .i64 b, .int .i64 c] := by
  obtain ⟨cs, rfl, hsz⟩ := okWide_struct Try.underlying24 hv
  obtain ⟨fuel, hf⟩ := h
  have hC : Try.prog.cellsOf 24 = 3 := by kernel_rfl
  obtain ⟨xs, h1, h2⟩ := open_nint Try.underlying24 (by kernel_rfl) (by kernel_rfl) hf (by simp [Value.cells]; omega)
  match xs, h1 with
  | [a, b, c], _ => exact ⟨a, b, c, by simp only [Value.cells] at h2; obtain ⟨l⟩ := cs; simp at h2; subst h2; rfl⟩
set_option maxRecDepth 100000 in
theorem arg_lun {W : World} {v : Value} {d : DataW H} {p : List MemPlace} {b0 : Nat} (hv : Value.okWide Try.prog W .any b0 26 v) (h : DataW.Trod enc Try.prog W 0 (fun _ => true) true 26 v d p) : ∃ a b c e f g k : Int, v = .agg #[.int .i64 a, .int .i64 b, .int .i64 c, .int .i64 e, .int .i64 f, .int .i64 g, .int .i64 k] := by
  obtain ⟨cs, rfl, hsz⟩ := okWide_struct Try.underlying26 hv
  obtain ⟨fuel, hf⟩ := h
  have hC : Try.prog.cellsOf 26 = 7 := by kernel_rfl
  obtain ⟨xs, h1, h2⟩ := open_nint Try.underlying26 (by kernel_rfl) (by kernel_rfl) hf (by simp [Value.cells]; omega)
  match xs, h1 with
  | [a, b, c, e, f, g, k], _ => exact ⟨a, b, c, e, f, g, k, by simp only [Value.cells] at h2; obtain ⟨l⟩ := cs; simp at h2; subst h2; rfl⟩
end
end Go.Proofs.Ytfbnllmmoaialaa
namespace Go.Proofs.Ytfbnllmmoaialaa

theorem meet_k : meetR [⟨10, 0⟩, ⟨12, 0⟩] [3, 7] 0 = (43, 60, 0) := by kernel_rfl
abbrev solK : Sol := ⟨4, 100, 400⟩
abbrev lunK : Lun := ⟨59, 2, 0, 235, 19, 0, 4⟩
theorem solOk_k : SolOk solK := ⟨by simp [solK], by simp [solK], by simp [solK]⟩
theorem lunar_k : lunarR lunK 826 = (⟨2, 4, 1, true⟩, 0) := by kernel_rfl
theorem beg_k : begI solK 1 = 366 := by kernel_rfl
theorem sol_k (d : Int) (h0 : 0 ≤ d) (h1 : d ≤ 59) : solI solK d = if d < 31 then ⟨0, 1, d + 1⟩ else if d < 60 then ⟨0, 2, d - 30⟩ else ⟨0, 0, 0⟩ := by
  have hy : yearI solK d = 0 := yearI_is solOk_k (y := 0) (by have := begI_zero solOk_k; show begI solK 0 ≤ d; omega) (by have := beg_k; show d < begI solK 1; omega) (by omega)
  have hb := begI_zero solOk_k
  have he : extraN solK 0 = 1 := by unfold extraN; have := beg_k; rw [show (0 : Int) + 1 = 1 from rfl, this, hb]; rfl
  unfold solI
  rw [hy]
  simp only [Int.natCast_zero] at *
  rw [he, hb]
  by_cases h : d < 31
  · rw [if_pos h]
    have e : walkM (monL 1) 1 (d - 0 + 1) = (1, d + 1) := by
      unfold monL walkM; rw [if_pos (by omega)]; simp
    rw [e]
  · rw [if_neg h, if_pos (by omega)]
    have e : walkM (monL 1) 1 (d - 0 + 1) = (2, d - 30) := by
      unfold monL walkM; rw [if_neg (by omega)]; unfold walkM; rw [if_pos (by omega)]; simp; omega
    rw [e]
theorem solar_k : solarR solK 59 = (⟨0, 2, 29⟩, 0) := by
  have h1 : solB solK = true := by kernel_rfl
  have h2 : inB 59 0 1000000 = true := by kernel_rfl
  unfold solarR
  rw [h1, h2, sol_k 59 (by omega) (by omega)]
  rfl
abbrev almK (A : Option Addr) (c : Nat) : Alm := ⟨A, c, [⟨7, 0⟩], solK, lunK⟩
abbrev rulK (A1 : Option Addr) (c1 : Nat) (A2 : Option Addr) (c2 : Nat) : List DRl := [⟨A1, c1, [⟨2, 0, 2, 0, 0⟩], true⟩, ⟨A2, c2, [⟨1, 0, 96, 0, 0⟩], false⟩]
section
variable (A : Option Addr) (c : Nat) (A1 : Option Addr) (c1 : Nat) (A2 : Option Addr) (c2 : Nat)
theorem both_k : bothE (almK A c) (rulK A1 c1 A2 c2) = 0 := by kernel_rfl
theorem allow_k (d : Int) (h0 : 0 ≤ d) (h1 : d ≤ 40) : allowB (almK A c) (rulK A1 c1 A2 c2) d = (decide (d < 31) && decide (d % 7 < 5)) := by
  have hs := sol_k d h0 (by omega)
  have hm : (solI solK d).m = if d < 31 then 1 else 2 := by
    rw [hs]; split
    · rfl
    · rw [if_pos (by omega)]
  have a1 : applB (almK A c) d ⟨A1, c1, [⟨2, 0, 2, 0, 0⟩], true⟩ = decide (d < 31) := by
    simp only [applB, List.all_cons, List.all_nil, Bool.and_true, holdB, almK, hm]
    by_cases h : d < 31
    · simp [h]; rfl
    · simp [h]; rfl
  have a2 : applB (almK A c) d ⟨A2, c2, [⟨1, 0, 96, 0, 0⟩], false⟩ = !decide (d % 7 < 5) := by
    simp only [applB, List.all_cons, List.all_nil, Bool.and_true, holdB, almK]
    have e : posI ⟨7, 0⟩ d = d % 7 := by unfold posI; simp only; omega
    simp only [if_true, List.getElem?_cons_zero, Int.toNat_zero, e]
    have h2 : 0 ≤ d % 7 ∧ d % 7 < 7 := by omega
    generalize d % 7 = q at h2
    have : q = 0 ∨ q = 1 ∨ q = 2 ∨ q = 3 ∨ q = 4 ∨ q = 5 ∨ q = 6 := by omega
    rcases this with rfl | rfl | rfl | rfl | rfl | rfl | rfl <;> rfl
  unfold allowB decI
  simp only [rulK, List.length_cons, List.length_nil, lastTo, List.getElem?_cons_succ, List.getElem?_cons_zero, a1, a2]
  by_cases h5 : d % 7 < 5
  · simp only [h5, decide_true, Bool.not_true, Bool.false_eq_true, if_false]
    by_cases h : d < 31
    · simp [h]
    · simp [h]
  · simp [h5]
theorem all_k (d : Int) (h0 : 0 ≤ d) (h1 : d ≤ 40) : allB (almK A c) [⟨none, 0, rulK A1 c1 A2 c2⟩] d = (decide (d < 31) && decide (d % 7 < 5)) := by
  simp only [allB, List.all_cons, List.all_nil, Bool.and_true]
  exact allow_k A c A1 c1 A2 c2 d h0 h1
theorem span_k (b : Int) (h0 : 0 ≤ b) (h1 : b ≤ 40) : spanL (almK A c) (rulK A1 c1 A2 c2) 0 b = ((List.range (b + 1 - 0).toNat).map fun i : Nat => (0 : Int) + (i : Int)).filter fun d => decide (d < 31) && decide (d % 7 < 5) := by
  unfold spanL daysL daysN
  refine List.filter_congr fun d hd => ?_
  simp only [List.mem_map, List.mem_range] at hd
  obtain ⟨i, hi, rfl⟩ := hd
  exact all_k A c A1 c1 A2 c2 _ (by omega) (by omega)
theorem count_k : countR (almK A c) (rulK A1 c1 A2 c2) 0 40 = (23, 0) := by
  unfold countR
  rw [both_k, if_pos rfl, show spanB 0 40 = true from by kernel_rfl, if_pos rfl, span_k _ _ _ _ _ _ 40 (by omega) (by omega)]
  kernel_rfl
theorem plan_k : planR (almK A c) (rulK A1 c1 A2 c2) 0 30 5 6 3 = ([2, 8, 14], 0) := by
  unfold planR
  rw [both_k, if_pos rfl, show okP 0 30 5 6 3 = true from by kernel_rfl, if_pos rfl, span_k _ _ _ _ _ _ 30 (by omega) (by omega)]
  kernel_rfl
end
end Go.Proofs.Ytfbnllmmoaialaa
namespace Go.Proofs.Ytfbnllmmoaialaa
open Go.RowKit

set_option maxRecDepth 100000 in
set_option maxHeartbeats 1000000 in
theorem same_any (A1 A2 : Option Addr) (c1 c2 : Nat) (l1 l2 : List Int) (w : World) (h1 : l1.length ≤ 1000000) (h2 : l2.length ≤ 1000000) (hr1 : Sl intCell 1 w w.heap.size A1 l1) (hr2 : Sl intCell 1 w w.heap.size A2 l2) :
    Calls Try.prog 25 #[.slice A1 l1.length c1, .slice A2 l2.length c2] w fun e w' => e = .returned (.bool (decide (l1 = l2))) ∧ Below w.heap.size w w' := by
  by_cases hl : l1.length = l2.length
  · have HR1 := Lib.hid hr1; have HR2 := Lib.hid hr2; have HL := Lib.hid hl
    obtain ⟨n, hn⟩ : ∃ n, n = l1.length := ⟨_, rfl⟩
    rw [← hl, ← hn]
    have HN := Lib.hid hn
    have e1 : ((n : Int) != (n : Int)) = false := by simp
    have hn1 : n ≤ 1000000 := by omega
    clear hr1 hr2 hl hn h1 h2
    go_enter Try.func25, Try.ntmps25
    go_wp2_with fail
    go_loopw [5] (fun i wr => ∃ k : Nat, k ≤ n ∧ i = .int .i64 (k : Int) ∧ Hid (Below w.heap.size w wr) ∧ Hid (∀ j, j < k → l1[j]? = l2[j]?)) (fun i _ => n - (intOf i).toNat)
    case atStart => exact ⟨0, by omega, rfl, Below.refl _ _, fun j h => by omega⟩
    case round =>
      obtain ⟨k, hk, rfl, hb, hno⟩ := hrel
      by_cases hlt : k < n
      · have hk1 : k < l1.length := by have := HN.out; omega
        have hk2 : k < l2.length := by have := HL.out; omega
        obtain ⟨a, o, rfl, hb1', q1⟩ := (HR1.out.below hb.out).int_at hk1
        obtain ⟨a2, o2, rfl, hb2', q2⟩ := (HR2.out.below hb.out).int_at hk2
        obtain ⟨x, hx⟩ : ∃ x, x = l1[k] := ⟨_, rfl⟩
        obtain ⟨y, hy⟩ : ∃ y, y = l2[k] := ⟨_, rfl⟩
        rw [← hx] at q1
        rw [← hy] at q2
        have HX := Lib.hid hx; have HY := Lib.hid hy
        have d1 : decide ((k : Int) < (n : Int)) = true := by simp; omega
        have k0 : (0 : Int) ≤ (k : Int) := by omega
        have k1 : (k : Int) < (n : Int) := by omega
        clear hx hy
        by_cases he : x = y
        · have de : (x != y) = false := by simp [he]
          have HNN : Hid (∀ j, j < k + 1 → l1[j]? = l2[j]?) := fun j hj => by
            by_cases e : j = k
            · subst e; rw [List.getElem?_eq_getElem hk1, List.getElem?_eq_getElem hk2, ← HX.out, ← HY.out, he]
            · exact hno.out j (by omega)
          clear he
          go_upto_region 6 with fail
          (refine wp_region_ext (by kernel_rfl) (by kernel_rfl) ?_; (repeat (go_big_quiet_step(fail))); with_reducible refine wpQuiet_nil ?_; intro w1 hw1; have hb1 := ext_below hw1; clear hw1)
          have HB1 := Lib.hid hb1
          clear hb1
          go_wp2_with fail
          go_roundw
          case rel => exact ⟨k + 1, by omega, by go_num, hb.out.trans (HB1.out.mono hb.out.size), HNN⟩
          case measure => simp [intOf]; omega
        · have de : (x != y) = true := by simpa using he
          have HT : Hid (decide (l1 = l2) = false) := (by
            rw [decide_eq_false_iff_not]; intro e; apply he
            rw [HX.out, HY.out]; congr 1 : decide (l1 = l2) = false)
          clear he
          go_upto_region 6 with fail
          (refine wp_region_ext (by kernel_rfl) (by kernel_rfl) ?_; (repeat (go_big_quiet_step(fail))); with_reducible refine wpQuiet_nil ?_; intro w1 hw1; have hb1 := ext_below hw1; clear hw1)
          have HB1 := Lib.hid hb1
          clear hb1
          go_wp2_with fail
          go_ret
          exact ⟨ret_bool HT.out.symm, hb.out.trans (HB1.out.mono hb.out.size)⟩
      · obtain rfl : k = n := by omega
        have HT : Hid (decide (l1 = l2) = true) := (by
          rw [decide_eq_true_eq]
          refine List.ext_getElem? fun j => ?_
          by_cases hj : j < l1.length
          · exact hno.out j (by have := HN.out; omega)
          · rw [List.getElem?_eq_none (by omega), List.getElem?_eq_none (by have := HL.out; omega)] : decide (l1 = l2) = true)
        have d1 : decide ((k : Int) < (k : Int)) = false := by simp
        go_wp2_with fail
        go_ret
        exact ⟨ret_bool HT.out.symm, hb.out⟩
  · have e1 : ((l1.length : Int) != (l2.length : Int)) = true := by simp; omega
    have HT : Hid (decide (l1 = l2) = false) := (by rw [decide_eq_false_iff_not]; intro e; exact hl (by rw [e]) : decide (l1 = l2) = false)
    clear hr1 hr2 hl
    go_enter Try.func25, Try.ntmps25
    go_wp2_with fail
    go_ret
    exact ⟨ret_bool HT.out.symm, Below.refl _ _⟩
theorem usual_any (w : World) : Calls Try.prog 55 #[] w fun e w' => e = .returned (.agg #[.int .i64 4, .int .i64 100, .int .i64 400]) ∧ Below w.heap.size w w' := by
  go_enter Try.func55, Try.ntmps55
  go_wp2
  have g := Blk.new w #[.int .i64 4, .int .i64 100, .int .i64 400] 24
  have k0 := g.cell 0; have k1 := g.cell 1; have k2 := g.cell 2
  simp at k0 k1 k2
  refine bodyPost_ret (v := .agg #[.int .i64 4, .int .i64 100, .int .i64 400]) (by simp [results, Try.results55, go_sem, k0, k1, k2]) rfl ⟨rfl, by (repeat (first | exact Below.refl _ _ | assumption | (refine Below.alloc ?_ (by first | omega | (simp; omega) | (simp; done)) _) | (refine Below.setCell ?_ (by first | omega | (simp; omega) | (simp; done)) _) | (refine Below.drew ?_) | (refine belowN ?_ _) | (refine Below.trans ?_ (Below.mono ‹Below _ _ _› (by first | omega | (simp; omega) | (simp; done))))))⟩
theorem moons_any (w : World) : Calls Try.prog 56 #[] w fun e w' => e = .returned (.agg #[.int .i64 59, .int .i64 2, .int .i64 0, .int .i64 235, .int .i64 19, .int .i64 0, .int .i64 4]) ∧ Below w.heap.size w w' := by
  go_enter Try.func56, Try.ntmps56
  go_wp2
  have g := Blk.new w #[.int .i64 59, .int .i64 2, .int .i64 0, .int .i64 235, .int .i64 19, .int .i64 0, .int .i64 4] 26
  have k0 := g.cell 0; have k1 := g.cell 1; have k2 := g.cell 2; have k3 := g.cell 3; have k4 := g.cell 4; have k5 := g.cell 5; have k6 := g.cell 6
  simp at k0 k1 k2 k3 k4 k5 k6
  refine bodyPost_ret (v := .agg #[.int .i64 59, .int .i64 2, .int .i64 0, .int .i64 235, .int .i64 19, .int .i64 0, .int .i64 4]) (by simp [results, Try.results56, go_sem, k0, k1, k2, k3, k4, k5, k6]) rfl ⟨rfl, by (repeat (first | exact Below.refl _ _ | assumption | (refine Below.alloc ?_ (by first | omega | (simp; omega) | (simp; done)) _) | (refine Below.setCell ?_ (by first | omega | (simp; omega) | (simp; done)) _) | (refine Below.drew ?_) | (refine belowN ?_ _) | (refine Below.trans ?_ (Below.mono ‹Below _ _ _› (by first | omega | (simp; omega) | (simp; done))))))⟩
set_option maxRecDepth 100000 in
set_option maxHeartbeats 1000000 in
theorem week_any (w : World) : Calls Try.prog 57 #[] w fun e w' => ∃ bs, e = .returned (.agg (almK (some ⟨bs, 0, none⟩) 1).cells.toArray) ∧ Blk w' bs #[.int .i64 7, .int .i64 0] 55 ∧ Below w.heap.size w w' := by
  go_enter Try.func57, Try.ntmps57
  go_wp2_with (first | (go_at_call 55; refine (usual_any _).mono ?_; rintro _ W1 ⟨rfl, hb1⟩) | (go_at_call 56; refine (moons_any _).mono ?_; rintro _ W2 ⟨rfl, hb2⟩; refine Hid.out ?_; have hw2 : Below w.heap.size w W2 := bl2 (bl2 (by (repeat (first | exact Below.refl _ _ | assumption | (refine Below.alloc ?_ (by first | omega | (simp; omega) | (simp; done)) _) | (refine Below.setCell ?_ (by first | omega | (simp; omega) | (simp; done)) _) | (refine Below.drew ?_) | (refine belowN ?_ _) | (refine Below.trans ?_ (Below.mono ‹Below _ _ _› (by first | omega | (simp; omega) | (simp; done))))))) hb1) hb2; have gz : Blk W2 w.heap.size #[.slice none 0 0, .int .i64 0, .int .i64 0, .int .i64 0, .int .i64 0, .int .i64 0, .int .i64 0, .int .i64 0, .int .i64 0, .int .i64 0, .int .i64 0] 28 := (((Blk.at_ rfl).alloc _).below hb1 (by first | omega | (simp; omega) | (simp; done))).below hb2 (by have := hb1.size; simp at this; omega); have gs : Blk W2 (w.heap.size + 1) #[.int .i64 7, .int .i64 0] 55 := ((Blk.at_ (by simp)).below hb1 (by first | omega | (simp; omega) | (simp; done))).below hb2 (by have := hb1.size; simp at this; omega); have z0 := gz.cell 0; have z1 := gz.cell 1; have z2 := gz.cell 2; have z3 := gz.cell 3; have z4 := gz.cell 4; have z5 := gz.cell 5; have z6 := gz.cell 6; have z7 := gz.cell 7; have z8 := gz.cell 8; have z9 := gz.cell 9; have z10 := gz.cell 10; have y0 := gz.free 0; have y1 := gz.free 1; have y2 := gz.free 2; have y3 := gz.free 3; have y4 := gz.free 4; have y5 := gz.free 5; have y6 := gz.free 6; have y7 := gz.free 7; have y8 := gz.free 8; have y9 := gz.free 9; have y10 := gz.free 10; simp at z0 z1 z2 z3 z4 z5 z6 z7 z8 z9 z10; refine Lib.hid ?_))
  have g := (((((((((((gz.set 0 (.slice (some ⟨w.heap.size + 1, 0, none⟩) 1 1)).set 1 (.int .i64 4)).set 2 (.int .i64 100)).set 3 (.int .i64 400)).set 4 (.int .i64 59)).set 5 (.int .i64 2)).set 6 (.int .i64 0)).set 7 (.int .i64 235)).set 8 (.int .i64 19)).set 9 (.int .i64 0)).set 10 (.int .i64 4))
  simp only [List.setIfInBounds_toArray, List.set_cons_zero, List.set_cons_succ] at g
  have k0 := g.cell 0; have k1 := g.cell 1; have k2 := g.cell 2; have k3 := g.cell 3; have k4 := g.cell 4; have k5 := g.cell 5; have k6 := g.cell 6; have k7 := g.cell 7; have k8 := g.cell 8; have k9 := g.cell 9; have k10 := g.cell 10
  simp at k0 k1 k2 k3 k4 k5 k6 k7 k8 k9 k10
  refine bodyPost_ret (v := .agg #[.slice (some ⟨w.heap.size + 1, 0, none⟩) 1 1, .int .i64 4, .int .i64 100, .int .i64 400, .int .i64 59, .int .i64 2, .int .i64 0, .int .i64 235, .int .i64 19, .int .i64 0, .int .i64 4]) (by simp [results, Try.results57, go_sem, k0, k1, k2, k3, k4, k5, k6, k7, k8, k9, k10]) rfl ?_
  refine ⟨w.heap.size + 1, rfl, ?_, ?_⟩
  · (repeat (refine Blk.far ?_ _ (by show w.heap.size + 1 ≠ w.heap.size; omega) _)); exact gs
  · (repeat (refine Below.setCell ?_ (by show w.heap.size ≤ w.heap.size; omega) _)); exact hw2
theorem rest_any (w : World) : Calls Try.prog 58 #[] w fun e w' => ∃ A1 A2 br, e = .returned (.slice (some ⟨br, 0, none⟩) 2 2) ∧ RlsAt w' w'.heap.size (some ⟨br, 0, none⟩) (rulK A1 1 A2 1) ∧ Below w.heap.size w w' := by
  go_enter Try.func58, Try.ntmps58
  go_wp2
  go_ret
  refine ⟨some ⟨w.heap.size, 0, none⟩, some ⟨w.heap.size + 1, 0, none⟩, w.heap.size + 2, rfl, ⟨by simp [rulK], ?_, ?_⟩, by (repeat (first | exact Below.refl _ _ | assumption | (refine Below.alloc ?_ (by first | omega | (simp; omega) | (simp; done)) _) | (refine Below.setCell ?_ (by first | omega | (simp; omega) | (simp; done)) _) | (refine Below.drew ?_) | (refine belowN ?_ _) | (refine Below.trans ?_ (Below.mono ‹Below _ _ _› (by first | omega | (simp; omega) | (simp; done))))))⟩
  · refine sl_one (t := 83) (cs := #[.slice (some ⟨w.heap.size, 0, none⟩) 1 1, .bool true, .slice (some ⟨w.heap.size + 1, 0, none⟩) 1 1, .bool false]) (Blk.at_ (by simp)) rfl rfl
  · intro r hr
    simp only [rulK, List.mem_cons, List.not_mem_nil, or_false] at hr
    rcases hr with rfl | rfl
    · refine ⟨by simp, by simp, ?_⟩
      refine sl_one (t := 126) (cs := #[.int .i64 2, .int .i64 0, .int .u64 2, .int .i64 0, .int .i64 0]) (((Blk.at_ rfl).alloc _).alloc _) rfl rfl
    · refine ⟨by simp, by simp, ?_⟩
      refine sl_one (t := 126) (cs := #[.int .i64 1, .int .i64 0, .int .u64 96, .int .i64 0, .int .i64 0]) ((Blk.at_ (by simp)).alloc _) rfl rfl
end Go.Proofs.Ytfbnllmmoaialaa
namespace Go.Proofs.Ytfbnllmmoaialaa
open Go.RowKit

theorem meetK_any (a b : Nat) (w : World) (ha : Blk w a #[.int .i64 10, .int .i64 0, .int .i64 12, .int .i64 0] 55) (hb : Blk w b #[.int .i64 3, .int .i64 7] 3) :
    Calls Try.prog 32 #[.slice (some ⟨a, 0, none⟩) 2 2, .slice (some ⟨b, 0, none⟩) 2 2, .int .i64 0] w fun e w' => e = .returned (.tuple #[.int .i64 43, .int .i64 60, .int .i64 0]) ∧ Below w.heap.size w w' := by
  have h := meet_any (some ⟨a, 0, none⟩) 2 [⟨10, 0⟩, ⟨12, 0⟩] (some ⟨b, 0, none⟩) 2 [3, 7] 0 w (by simp) (by simp) (sl_one ha rfl rfl) (sl_one hb rfl rfl)
  rw [meet_k] at h
  exact h
theorem solarK_any (w : World) : Calls Try.prog 41 #[.agg #[.int .i64 4, .int .i64 100, .int .i64 400], .int .i64 59] w fun e w' => e = .returned (.tuple #[.agg #[.int .i64 0, .int .i64 2, .int .i64 29], .int .i64 0]) ∧ Below w.heap.size w w' := by
  have h := solarF_any 4 100 400 59 w
  rw [solar_k] at h
  exact h
theorem lunarK_any (w : World) : Calls Try.prog 46 #[.agg #[.int .i64 59, .int .i64 2, .int .i64 0, .int .i64 235, .int .i64 19, .int .i64 0, .int .i64 4], .int .i64 826] w fun e w' => e = .returned (.tuple #[.agg #[.int .i64 2, .int .i64 4, .int .i64 1, .bool true], .int .i64 0]) ∧ Below w.heap.size w w' := by
  have h := lunarF_any 59 2 0 235 19 0 4 826 w
  rw [lunar_k] at h
  exact h
theorem countK_any (bs : Nat) (A1 A2 : Option Addr) (br : Nat) (w : World) (hb : Blk w bs #[.int .i64 7, .int .i64 0] 55) (hr : RlsAt w w.heap.size (some ⟨br, 0, none⟩) (rulK A1 1 A2 1)) :
    Calls Try.prog 54 #[.agg (almK (some ⟨bs, 0, none⟩) 1).cells.toArray, .slice (some ⟨br, 0, none⟩) 2 2, .int .i64 0, .int .i64 40] w fun e w' => e = .returned (.tuple #[.int .i64 23, .int .i64 0]) ∧ Below w.heap.size w w' := by
  have h := countF_any (almK (some ⟨bs, 0, none⟩) 1) (some ⟨br, 0, none⟩) 2 (rulK A1 1 A2 1) 0 40 w (by simp) (sl_one hb rfl rfl) hr
  rw [count_k] at h
  exact h
theorem planK_any (bs : Nat) (A1 A2 : Option Addr) (br : Nat) (w : World) (hb : Blk w bs #[.int .i64 7, .int .i64 0] 55) (hr : RlsAt w w.heap.size (some ⟨br, 0, none⟩) (rulK A1 1 A2 1)) :
    Calls Try.prog 18 #[.agg (almK (some ⟨bs, 0, none⟩) 1).cells.toArray, .slice (some ⟨br, 0, none⟩) 2 2, .agg #[.int .i64 0, .int .i64 30], .agg #[.int .i64 5, .int .i64 6], .int .i64 3] w fun e w' => ∃ A c, e = .returned (.tuple #[.slice A 3 c, .int .i64 0]) ∧ Sl intCell 1 w' w'.heap.size A [2, 8, 14] ∧ Below w.heap.size w w' := by
  have h := plan_ok (almK (some ⟨bs, 0, none⟩) 1) (some ⟨br, 0, none⟩) 2 (rulK A1 1 A2 1) 0 30 5 6 3 w (by simp) (sl_one hb rfl rfl) hr (both_k _ _ _ _ _ _) (by kernel_rfl)
  rw [plan_k] at h
  exact h.mono fun e w' ⟨A, c, h1, h2, _, h4⟩ => ⟨A, c, h1, h2, h4⟩
set_option maxRecDepth 100000 in
set_option maxHeartbeats 4000000 in
theorem known_any (w : World) : Calls Try.prog 17 #[] w fun e w' => e = .returned (.bool true) ∧ Below w.heap.size w w' := by
  go_enter Try.func17, Try.ntmps17
  go_upto_region 2 with (go_at_call 32; refine (meetK_any _ _ _ ((Blk.at_ rfl).alloc _) (Blk.at_ (by simp))).mono ?_; rintro _ W1 ⟨rfl, hb1⟩)
  refine gen_w (fun W => Below w.heap.size w W) (bl2 (by (repeat (first | exact Below.refl _ _ | assumption | (refine Below.alloc ?_ (by first | omega | (simp; omega) | (simp; done)) _) | (refine Below.setCell ?_ (by first | omega | (simp; omega) | (simp; done)) _) | (refine Below.drew ?_) | (refine belowN ?_ _) | (refine Below.trans ?_ (Below.mono ‹Below _ _ _› (by first | omega | (simp; omega) | (simp; done))))))) hb1) ?_
  clear hb1
  clear W1
  rintro W1 hw1
  go_upto_region 3 with (first | (go_at_call 55; refine (usual_any _).mono ?_; rintro _ W2 ⟨rfl, hb2⟩) | (go_at_call 41; refine (solarK_any _).mono ?_; rintro _ W3 ⟨rfl, hb3⟩))
  obtain ⟨p4, hp4⟩ : ∃ n, n = W3.heap.size := ⟨_, rfl⟩
  rw [← hp4]
  refine gen_w (fun W => Below w.heap.size w W ∧ Blk W p4 #[.int .i64 0, .int .i64 2, .int .i64 29] 75) ⟨bla (bl2 (bl2 hw1 hb2) hb3), Blk.at_ hp4⟩ ?_
  clear hb2 hb3 hp4 hw1
  clear W1 W2 W3
  rintro W1 ⟨hw1, g4⟩
  go_upto_region 4 with (first | (go_at_call 56; refine (moons_any _).mono ?_; rintro _ W2 ⟨rfl, hb2⟩) | (go_at_call 46; refine (lunarK_any _).mono ?_; rintro _ W3 ⟨rfl, hb3⟩))
  obtain ⟨p6, hp6⟩ : ∃ n, n = W3.heap.size := ⟨_, rfl⟩
  rw [← hp6]
  refine gen_w (fun W => Below w.heap.size w W ∧ Blk W p4 #[.int .i64 0, .int .i64 2, .int .i64 29] 75 ∧ Blk W p6 #[.int .i64 2, .int .i64 4, .int .i64 1, .bool true] 77) ⟨bla (bl2 (bl2 hw1 hb2) hb3), ((g4.below hb2 g4.lt).below hb3 (by have := g4.lt; have := hb2.size; omega)).alloc _, Blk.at_ hp6⟩ ?_
  clear hb2 hb3 hp6 hw1 g4
  clear W1 W2 W3
  rintro W1 ⟨hw1, g4, g6⟩
  go_upto_region 5 with (first | (go_at_call 57; refine (week_any _).mono ?_; rintro _ W2 ⟨bs, rfl, gb, hb2⟩) | (go_at_call 58; refine (rest_any _).mono ?_; rintro _ W3 ⟨A1, A2, br, rfl, gr, hb3⟩) | (go_at_call 54; refine (countK_any _ _ _ _ _ (gb.below hb3 gb.lt) gr).mono ?_; rintro _ W4 ⟨rfl, hb4⟩))
  refine gen_w (fun W => Below w.heap.size w W ∧ Blk W p4 #[.int .i64 0, .int .i64 2, .int .i64 29] 75 ∧ Blk W p6 #[.int .i64 2, .int .i64 4, .int .i64 1, .bool true] 77) ⟨bl2 (bl2 (bl2 hw1 hb2) hb3) hb4, ((g4.below hb2 g4.lt).below hb3 (by have := g4.lt; have := hb2.size; omega)).below hb4 (by have := g4.lt; have := hb2.size; have := hb3.size; omega), ((g6.below hb2 g6.lt).below hb3 (by have := g6.lt; have := hb2.size; omega)).below hb4 (by have := g6.lt; have := hb2.size; have := hb3.size; omega)⟩ ?_
  clear hb2 hb3 hb4 hw1 g4 g6 gb gr
  clear W1 W2 W3 W4
  rintro W1 ⟨hw1, g4, g6⟩
  go_upto_region 6 with (first | (go_at_call 57; refine (week_any _).mono ?_; rintro _ W2 ⟨bs2, rfl, gb, hb2⟩) | (go_at_call 58; refine (rest_any _).mono ?_; rintro _ W3 ⟨A3, A4, br2, rfl, gr, hb3⟩) | (go_at_call 18; refine (planK_any _ _ _ _ _ (gb.below hb3 gb.lt) gr).mono ?_; rintro _ W4 ⟨Ap, cp, rfl, hsl, hb4⟩))
  refine gen_w (fun W => Below w.heap.size w W ∧ Blk W p4 #[.int .i64 0, .int .i64 2, .int .i64 29] 75 ∧ Blk W p6 #[.int .i64 2, .int .i64 4, .int .i64 1, .bool true] 77 ∧ Sl intCell 1 W W.heap.size Ap [2, 8, 14]) ⟨bl2 (bl2 (bl2 hw1 hb2) hb3) hb4, ((g4.below hb2 g4.lt).below hb3 (by have := g4.lt; have := hb2.size; omega)).below hb4 (by have := g4.lt; have := hb2.size; have := hb3.size; omega), ((g6.below hb2 g6.lt).below hb3 (by have := g6.lt; have := hb2.size; omega)).below hb4 (by have := g6.lt; have := hb2.size; have := hb3.size; omega), hsl⟩ ?_
  clear hb2 hb3 hb4 hw1 g4 g6 gb gr hsl
  clear W1 W2 W3 W4
  rintro W1 ⟨hw1, g4, g6, hsl⟩
  have c0 := g4.cell 0; have c1 := g4.cell 1; have c2 := g4.cell 2
  have d0 := g6.cell 0; have d1 := g6.cell 1; have d2 := g6.cell 2; have d3 := g6.cell 3
  simp at c0 c1 c2 d0 d1 d2 d3
  have HSL := Lib.hid hsl
  clear hsl g4 g6
  go_wp2_with fail
  have hs := same_any Ap (some ⟨W1.heap.size, 0, none⟩) cp 3 [2, 8, 14] [2, 8, 14] (W1.alloc (.cells #[.int .i64 2, .int .i64 8, .int .i64 14] 3)) (by simp) (by simp) ((HSL.out.below ((Below.refl _ _).alloc (Nat.le_refl _) _)).more (by simp)) (sl_one (Blk.at_ rfl) rfl rfl)
  rw [show decide (([2, 8, 14] : List Int) = [2, 8, 14]) = true from rfl] at hs
  have HS := Lib.hid (hs : Calls Try.prog 25 #[.slice Ap 3 cp, .slice (some ⟨W1.heap.size, 0, none⟩) 3 3] (W1.alloc (.cells #[.int .i64 2, .int .i64 8, .int .i64 14] 3)) fun e w' => e = .returned (.bool true) ∧ Below (W1.alloc (.cells #[.int .i64 2, .int .i64 8, .int .i64 14] 3)).heap.size (W1.alloc (.cells #[.int .i64 2, .int .i64 8, .int .i64 14] 3)) w')
  clear hs
  refine HS.out.mono ?_
  rintro _ W5 ⟨rfl, hb5⟩
  go_wp2_with fail
  go_ret
  exact ⟨rfl, bl2 (bla hw1) hb5⟩
end Go.Proofs.Ytfbnllmmoaialaa

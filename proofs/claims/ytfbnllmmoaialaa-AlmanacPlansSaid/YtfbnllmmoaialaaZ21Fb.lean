/- The rows' frame: numbers of sixteen bits. -/
import Derived.Test.YtfbnllmmoaialaaB20Fa
import Derived.Test.YtfbnllmmoaialaaB00Mem
import Derived.Test.YtfbnllmmoaialaaAm
import Derived.Laws.AppendOwnNone
import Derived.OwnWalk
import Derived.Maps.AppendAt
import Derived.Test.YtfbnllmmoaialaaBe
import Derived.Deep.RegionHeldLaw
import Derived.Deep.AppendLies
namespace Go.Proofs.Ytfbnllmmoaialaa
open Go.RowKit Go.ChangeShapes Go.WideShapes Go.ChangeAt Go.Deep
section
variable {H : Type} {enc : TypeId × Value → H}
theorem u16_wf {n : Int} (h : (Lit.int .u16 n).wf = true) : 0 ≤ n ∧ n < 65536 := by
  simp only [Lit.wf, Bool.and_eq_true, decide_eq_true_eq] at h
  have h1 : IntKind.u16.min = 0 := by decide
  have h2 : IntKind.u16.max = 65535 := by decide
  rw [h1, h2] at h; omega
set_option maxRecDepth 100000 in
theorem arg_u16 {W : World} {v : Value} {d : DataW H} {p : List MemPlace} {b0 : Nat} (hv : Value.okWide Try.prog W .any b0 103 v) (h : DataW.Trod enc Try.prog W 0 (fun _ => true) true 103 v d p) : ∃ a : Int, v = .int .u16 a ∧ 0 ≤ a ∧ a < 65536 := by
  have hu : Try.prog.underlying 103 = some (.int .u16) := by kernel_rfl
  simp only [Value.okWide, hu, Cell.okWide] at hv
  obtain ⟨fuel, hf⟩ := h
  obtain ⟨a, ha, _, hw⟩ := DataW.trod_int hu hf
  refine ⟨a, ?_, u16_wf hw⟩
  cases v <;> simp_all [Value.cells, Cell.ok]
end
end Go.Proofs.Ytfbnllmmoaialaa
namespace Go.Proofs.Ytfbnllmmoaialaa
open Go.RowKit Go.ChangeShapes Go.WideShapes Go.ChangeAt Go.Deep

theorem u8_wf {n : Int} (h : (Lit.int .u8 n).wf = true) : 0 ≤ n ∧ n < 256 := by
  simp only [Lit.wf, Bool.and_eq_true, decide_eq_true_eq] at h
  have h1 : IntKind.u8.min = 0 := by decide
  have h2 : IntKind.u8.max = 255 := by decide
  rw [h1, h2] at h; omega
section
variable {H : Type} {enc : TypeId × Value → H} {w : World} {base : Nat} {spare : Nat → Bool} {held : Bool}
theorem open_cyc {n : Nat} {cs : List Value} {y : DataW H × List MemPlace} (h : DataW.trod enc Try.prog w base spare held n 55 cs = some y) (hl : cs.length = 2) : ∃ u : Cyc, True ∧ u.cells = cs := by
  obtain ⟨xs, h1, h2⟩ := open_nint Try.underlying55 (by kernel_rfl) (by kernel_rfl) h hl
  match xs, h1 with
  | [a, b], _ => exact ⟨⟨a, b⟩, trivial, h2.symm⟩
theorem uCyclesF : Try.prog.underlying 22 = some (.slice 55) := by kernel_rfl
theorem open_cycs {n : Nat} {cs : List Value} {y : DataW H × List MemPlace} (h : DataW.trod enc Try.prog w base spare held n 22 cs = some y) : ∃ A c l, cs = [.slice A l.length c] ∧ Sl Cyc.cells 2 w w.heap.size A l ∧ (A = none → c = 0) := by
  obtain ⟨A, c, l, h1, h2, h3, _⟩ := open_sl Cyc.cells 2 (by omega) (fun _ => rfl) (fun _ => True) uCyclesF (by kernel_rfl) (fun n cs' y hy hl => open_cyc hy hl) h
  exact ⟨A, c, l, h1, h2, h3⟩
set_option maxRecDepth 100000 in
theorem arg_cycles {W : World} {v : Value} {d : DataW H} {p : List MemPlace} {b0 : Nat} (hv : Value.okWide Try.prog W .any b0 22 v) (h : DataW.Trod enc Try.prog W 0 (fun _ => true) true 22 v d p) : ∃ A c l, v = .slice A l.length c ∧ Sl Cyc.cells 2 W W.heap.size A l ∧ (A = none → c = 0) := by
  obtain ⟨fuel, hf⟩ := h
  obtain ⟨A, c, l, h1, h2, h3⟩ := open_cycs hf
  refine ⟨A, c, l, ?_, h2, h3⟩
  simp only [Value.okWide, uCyclesF, Cell.okWide] at hv
  cases v <;> simp_all [Value.cells, Cell.ok]
set_option maxRecDepth 100000 in
theorem arg_dial {W : World} {v : Value} {d : DataW H} {p : List MemPlace} {b0 : Nat} (hv : Value.okWide Try.prog W .any b0 67 v) (h : DataW.Trod enc Try.prog W 0 (fun _ => true) true 67 v d p) :
    ∃ (A : Option Addr) (c : Nat) (l : List Int) (f m : Int), v = .agg #[.slice A l.length c, .int .i64 f, .int .u8 m] ∧ Sl intCell 1 W W.heap.size A l ∧ (A = none → c = 0) ∧ 0 ≤ m ∧ m < 256 := by
  obtain ⟨cs, rfl, hsz⟩ := okWide_struct Try.underlying67 hv
  obtain ⟨fuel, hf0⟩ := h
  have hC : Try.prog.cellsOf 67 = 3 := by kernel_rfl
  have hl : (Value.agg cs).cells.toList.length = 3 := by simp [Value.cells]; omega
  obtain ⟨m, hf⟩ := struct_cells Try.underlying67 (by kernel_rfl) hl hf0
  obtain ⟨v0, z0, c0, t0⟩ := hf 0 _ rfl
  obtain ⟨v1, z1, c1, t1⟩ := hf 1 _ rfl
  obtain ⟨v2, z2, c2, t2⟩ := hf 2 _ rfl
  obtain ⟨A0, d0, l0, e0, s0, n0⟩ := open_ints uInts (by kernel_rfl) (by kernel_rfl) t0
  obtain ⟨a1, e1, _, _⟩ := DataW.trod_int (show Try.prog.underlying _ = some (.int .i64) by kernel_rfl) t1
  obtain ⟨a2, e2, _, w2⟩ := DataW.trod_int (show Try.prog.underlying _ = some (.int .u8) by kernel_rfl) t2
  simp only [List.cons.injEq, and_true] at e0 e1 e2
  subst e0 e1 e2
  obtain ⟨q1, q2⟩ := u8_wf w2
  refine ⟨A0, d0, l0, a1, a2, ?_, s0, n0, q1, q2⟩
  simp only [Value.cells] at hl c0 c1 c2
  obtain ⟨l⟩ := cs
  match l, hl with
  | [x0, x1, x2], _ =>
    simp at c0 c1 c2
    simp [c0, c1, c2]
end
end Go.Proofs.Ytfbnllmmoaialaa
namespace Go.Proofs.Ytfbnllmmoaialaa
open Go.RowKit Go.ChangeShapes Go.WideShapes Go.ChangeAt Go.Deep
section
variable {H : Type} {enc : TypeId × Value → H}
set_option maxRecDepth 100000 in
theorem arg_sdate {W : World} {v : Value} {d : DataW H} {p : List MemPlace} {b0 : Nat} (hv : Value.okWide Try.prog W .any b0 75 v) (h : DataW.Trod enc Try.prog W 0 (fun _ => true) true 75 v d p) : ∃ a b c : Int, v = .agg #[.int .i64 a, .int .i64 b, .int .i64 c] := by
  obtain ⟨cs, rfl, hsz⟩ := okWide_struct Try.underlying75 hv
  obtain ⟨fuel, hf⟩ := h
  have hC : Try.prog.cellsOf 75 = 3 := by kernel_rfl
  obtain ⟨xs, h1, h2⟩ := open_nint Try.underlying75 (by kernel_rfl) (by kernel_rfl) hf (by simp [Value.cells]; omega)
  match xs, h1 with
  | [a, b, c], _ => exact ⟨a, b, c, by simp only [Value.cells] at h2; obtain ⟨l⟩ := cs; simp at h2; subst h2; rfl⟩
set_option maxRecDepth 100000 in
theorem arg_span {W : World} {v : Value} {d : DataW H} {p : List MemPlace} {b0 : Nat} (hv : Value.okWide Try.prog W .any b0 36 v) (h : DataW.Trod enc Try.prog W 0 (fun _ => true) true 36 v d p) : ∃ a b : Int, v = .agg #[.int .i64 a, .int .i64 b] := by
  obtain ⟨cs, rfl, hsz⟩ := okWide_struct Try.underlying36 hv
  obtain ⟨fuel, hf⟩ := h
  have hC : Try.prog.cellsOf 36 = 2 := by kernel_rfl
  obtain ⟨xs, h1, h2⟩ := open_nint Try.underlying36 (by kernel_rfl) (by kernel_rfl) hf (by simp [Value.cells]; omega)
  match xs, h1 with
  | [a, b], _ => exact ⟨a, b, by simp only [Value.cells] at h2; obtain ⟨l⟩ := cs; simp at h2; subst h2; rfl⟩
set_option maxRecDepth 100000 in
theorem arg_ldate {W : World} {v : Value} {d : DataW H} {p : List MemPlace} {b0 : Nat} (hv : Value.okWide Try.prog W .any b0 77 v) (h : DataW.Trod enc Try.prog W 0 (fun _ => true) true 77 v d p) : ∃ (a b c : Int) (k : Bool), v = .agg #[.int .i64 a, .int .i64 b, .int .i64 c, .bool k] := by
  obtain ⟨cs, rfl, hsz⟩ := okWide_struct Try.underlying77 hv
  obtain ⟨fuel, hf0⟩ := h
  have hC : Try.prog.cellsOf 77 = 4 := by kernel_rfl
  have hl : (Value.agg cs).cells.toList.length = 4 := by simp [Value.cells]; omega
  obtain ⟨m, hf⟩ := struct_cells Try.underlying77 (by kernel_rfl) hl hf0
  obtain ⟨v0, z0, c0, t0⟩ := hf 0 _ rfl
  obtain ⟨v1, z1, c1, t1⟩ := hf 1 _ rfl
  obtain ⟨v2, z2, c2, t2⟩ := hf 2 _ rfl
  obtain ⟨v3, z3, c3, t3⟩ := hf 3 _ rfl
  obtain ⟨a0, e0, _, _⟩ := DataW.trod_int (show Try.prog.underlying _ = some (.int .i64) by kernel_rfl) t0
  obtain ⟨a1, e1, _, _⟩ := DataW.trod_int (show Try.prog.underlying _ = some (.int .i64) by kernel_rfl) t1
  obtain ⟨a2, e2, _, _⟩ := DataW.trod_int (show Try.prog.underlying _ = some (.int .i64) by kernel_rfl) t2
  obtain ⟨a3, e3, _⟩ := DataW.trod_bool (show Try.prog.underlying _ = some .bool by kernel_rfl) t3
  simp only [List.cons.injEq, and_true] at e0 e1 e2 e3
  subst e0 e1 e2 e3
  refine ⟨a0, a1, a2, a3, ?_⟩
  simp only [Value.cells] at hl c0 c1 c2 c3
  obtain ⟨l⟩ := cs
  match l, hl with
  | [x0, x1, x2, x3], _ =>
    simp at c0 c1 c2 c3
    simp [c0, c1, c2, c3]
end
end Go.Proofs.Ytfbnllmmoaialaa
namespace Go.Proofs.Ytfbnllmmoaialaa
open Go.RowKit

theorem infoCyc : (Try.prog.info? 55).map (fun i => (i.zero, i.size, i.bytes)) = some (some (.agg #[.int .i64 0, .int .i64 0]), 2, 16) := by kernel_rfl
theorem uCycles : Try.prog.underlying 22 = some (.slice 55) := by kernel_rfl
set_option maxRecDepth 100000 in
theorem ints0_any (A : Option Addr) (c : Nat) (l : List Int) (w : World) (hl : l.length ≤ 1000000) (hn : A = none → c = 0) (hok : ∀ u ∈ flat intCell l, u.oneCell' = true) (hr : Sl intCell 1 w w.heap.size A l) :
    Calls Try.prog 31 #[.slice A l.length c] w (RetOwn 3 intCell 1 l w) := by
  obtain ⟨i0, hi, iz0, iz1, iz2⟩ := info_parts infoInt
  have hfl : (flat intCell l).length = l.length * 1 := hr.1
  cases A with
  | none =>
    obtain rfl : c = 0 := hn rfl
    have h0 : l.length = 0 := by
      rcases Nat.eq_zero_or_pos l.length with h | h
      · exact h
      · obtain ⟨b, o, e, _⟩ := hr.2 h; cases e
    have hl0 : l = [] := List.eq_nil_of_length_eq_zero h0
    subst hl0
    have hown := World.ownsRow_made (e := 3) (size := 1) w #[] 0 (base := w.heap.size) (Nat.le_refl _) (by simp) (by simp)
    have HO := Lib.hid hown
    clear hown hr hfl
    go_enter Try.func31, Try.ntmps31
    go_wp2_with (at_builtin; refine wpList_append_own_none rfl _ _ 38 rfl w.heap.size 3 i0 1 uInts hi _ _ _ rfl HO.out rfl ?_)
    go_ret
    exact ⟨_, rfl, by simpa [flat] using HO.out, by (repeat (first | exact Below.refl _ _ | assumption | (refine Below.alloc ?_ (by first | omega | (simp; omega) | (simp; done)) _) | (refine Below.setCell ?_ (by first | omega | (simp; omega) | (simp; done)) _) | (refine Below.drew ?_) | (refine belowN ?_ _) | (refine Below.trans ?_ (Below.mono ‹Below _ _ _› (by first | omega | (simp; omega) | (simp; done))))))⟩
  | some ad =>
    have hcell : ∀ (j : Nat) (u : Value), (flat intCell l)[j]? = some u → (w.alloc (.cells #[] 3)).cell? (ad.add j) = some u := fun j u hu => by
      have hpos : 0 < l.length := by
        rcases Nat.eq_zero_or_pos l.length with h | h
        · have : l = [] := List.eq_nil_of_length_eq_zero h
          subst this; simp [flat] at hu
        · exact h
      obtain ⟨b, o, e, hb, hc⟩ := hr.2 hpos
      cases e
      have h1 := hc j u hu
      rw [Go.WideShapes.add_plain, ((Below.refl w.heap.size w).alloc (Nat.le_refl _) _).cell (p := ⟨b, o + j, none⟩) hb]
      exact h1
    have hown := World.ownsRow_made (e := 3) (size := 1) w #[] 0 (base := w.heap.size) (Nat.le_refl _) (by simp) (by simp)
    have HO := Lib.hid hown; have HC := Lib.hid hcell; have HFL := Lib.hid hfl; have HOK := Lib.hid hok
    clear hown hcell hfl hr hok hn
    go_enter Try.func31, Try.ntmps31
    go_wp2_with (at_builtin; refine wpList_append_own _ rfl _ _ 38 rfl w.heap.size 3 i0 (.int .i64 0) 1 8 uInts hi iz0 iz1 iz2 rfl (by decide) _ _ _ rfl HO.out ad l.length c (flat intCell l) rfl HFL.out HC.out HOK.out (by unfold maxLen; omega) (by omega) (by simp) ?_; intro v' w1 hown1 hgrow _)
    have hb1 : Below w.heap.size w w1 := ((Below.refl _ _).alloc (Nat.le_refl _) _).grown hgrow (by simp) (fun g hg => by cases hg; exact Nat.le_refl _)
    have HO1 := Lib.hid hown1
    clear hown1 hgrow
    go_wp2
    go_ret
    exact ⟨_, rfl, by simpa using HO1.out, hb1⟩
set_option maxRecDepth 100000 in
theorem cycles0_any (A : Option Addr) (c : Nat) (l : List Cyc) (w : World) (hl : l.length ≤ 1000000) (hn : A = none → c = 0) (hok : ∀ u ∈ flat Cyc.cells l, u.oneCell' = true) (hr : Sl Cyc.cells 2 w w.heap.size A l) :
    Calls Try.prog 30 #[.slice A l.length c] w (RetOwn 55 Cyc.cells 2 l w) := by
  obtain ⟨i0, hi, iz0, iz1, iz2⟩ := info_parts infoCyc
  have hfl : (flat Cyc.cells l).length = l.length * 2 := hr.1
  cases A with
  | none =>
    obtain rfl : c = 0 := hn rfl
    have h0 : l.length = 0 := by
      rcases Nat.eq_zero_or_pos l.length with h | h
      · exact h
      · obtain ⟨b, o, e, _⟩ := hr.2 h; cases e
    have hl0 : l = [] := List.eq_nil_of_length_eq_zero h0
    subst hl0
    have hown := World.ownsRow_made (e := 55) (size := 2) w #[] 0 (base := w.heap.size) (Nat.le_refl _) (by simp) (by simp)
    have HO := Lib.hid hown
    clear hown hr hfl
    go_enter Try.func30, Try.ntmps30
    go_wp2_with (at_builtin; refine wpList_append_own_none rfl _ _ 22 rfl w.heap.size 55 i0 2 uCycles hi _ _ _ rfl HO.out rfl ?_)
    go_ret
    exact ⟨_, rfl, by simpa [flat] using HO.out, by (repeat (first | exact Below.refl _ _ | assumption | (refine Below.alloc ?_ (by first | omega | (simp; omega) | (simp; done)) _) | (refine Below.setCell ?_ (by first | omega | (simp; omega) | (simp; done)) _) | (refine Below.drew ?_) | (refine belowN ?_ _) | (refine Below.trans ?_ (Below.mono ‹Below _ _ _› (by first | omega | (simp; omega) | (simp; done))))))⟩
  | some ad =>
    have hcell : ∀ (j : Nat) (u : Value), (flat Cyc.cells l)[j]? = some u → (w.alloc (.cells #[] 55)).cell? (ad.add j) = some u := fun j u hu => by
      have hpos : 0 < l.length := by
        rcases Nat.eq_zero_or_pos l.length with h | h
        · have : l = [] := List.eq_nil_of_length_eq_zero h
          subst this; simp [flat] at hu
        · exact h
      obtain ⟨b, o, e, hb, hc⟩ := hr.2 hpos
      cases e
      have h1 := hc j u hu
      rw [Go.WideShapes.add_plain, ((Below.refl w.heap.size w).alloc (Nat.le_refl _) _).cell (p := ⟨b, o + j, none⟩) hb]
      exact h1
    have hown := World.ownsRow_made (e := 55) (size := 2) w #[] 0 (base := w.heap.size) (Nat.le_refl _) (by simp) (by simp)
    have HO := Lib.hid hown; have HC := Lib.hid hcell; have HFL := Lib.hid hfl; have HOK := Lib.hid hok
    clear hown hcell hfl hr hok hn
    go_enter Try.func30, Try.ntmps30
    go_wp2_with (at_builtin; refine wpList_append_own _ rfl _ _ 22 rfl w.heap.size 55 i0 (.agg #[.int .i64 0, .int .i64 0]) 2 16 uCycles hi iz0 iz1 iz2 rfl (by decide) _ _ _ rfl HO.out ad l.length c (flat Cyc.cells l) rfl HFL.out HC.out HOK.out (by unfold maxLen; omega) (by omega) (by simp) ?_; intro v' w1 hown1 hgrow _)
    have hb1 : Below w.heap.size w w1 := ((Below.refl _ _).alloc (Nat.le_refl _) _).grown hgrow (by simp) (fun g hg => by cases hg; exact Nat.le_refl _)
    have HO1 := Lib.hid hown1
    clear hown1 hgrow
    go_wp2
    go_ret
    exact ⟨_, rfl, by simpa using HO1.out, hb1⟩
theorem sl_of_ownN {α : Type} {f : α → List Value} {size : Nat} {e : TypeId} {w : World} {base : Nat} {v : Value} {l : List α} (h : w.ownsRow base e size v l.length (flat f l)) : ∃ A c, v = .slice A l.length c ∧ Sl f size w w.heap.size A l ∧ (A = none → c = 0) := by
  rcases h.2 with ⟨rfl, h0⟩ | ⟨g, cap, cur, rfl, hb, hg, hn, hc, hs, ht⟩
  · exact ⟨none, 0, by rw [h0], ⟨h.1, fun hn => by omega⟩, fun _ => rfl⟩
  · obtain ⟨A, c, h1, h2⟩ := Sl.of_own h
    exact ⟨A, c, h1, h2, fun e => by subst e; cases h1⟩
theorem ints_any (A : Option Addr) (c : Nat) (l : List Int) (w : World) (hl : l.length ≤ 1000000) (hn : A = none → c = 0) (hr : Sl intCell 1 w w.heap.size A l) :
    Calls Try.prog 31 #[.slice A l.length c] w fun e w' => ∃ B k, e = .returned (.slice B l.length k) ∧ Sl intCell 1 w' w'.heap.size B l ∧ (B = none → k = 0) ∧ Below w.heap.size w w' :=
  (ints0_any A c l w hl hn (by rw [flat_int]; intro u hu; obtain ⟨x, _, rfl⟩ := List.mem_map.1 hu; rfl) hr).mono fun _ _ ⟨v, h1, h2, h3⟩ => by
    obtain ⟨A', c', rfl, h4, h5⟩ := sl_of_ownN h2
    exact ⟨A', c', h1, h4, h5, h3⟩
theorem cycles_any (A : Option Addr) (c : Nat) (l : List Cyc) (w : World) (hl : l.length ≤ 1000000) (hn : A = none → c = 0) (hr : Sl Cyc.cells 2 w w.heap.size A l) :
    Calls Try.prog 30 #[.slice A l.length c] w fun e w' => ∃ B k, e = .returned (.slice B l.length k) ∧ Sl Cyc.cells 2 w' w'.heap.size B l ∧ (B = none → k = 0) ∧ Below w.heap.size w w' :=
  (cycles0_any A c l w hl hn (by intro u hu; obtain ⟨x, _, hx⟩ := List.mem_flatMap.1 hu; simp [Cyc.cells] at hx; rcases hx with rfl | rfl <;> rfl) hr).mono fun _ _ ⟨v, h1, h2, h3⟩ => by
    obtain ⟨A', c', rfl, h4, h5⟩ := sl_of_ownN h2
    exact ⟨A', c', h1, h4, h5, h3⟩
end Go.Proofs.Ytfbnllmmoaialaa
namespace Go.Proofs.Ytfbnllmmoaialaa
open Go.RowKit

/-- at a step of a region that draws its order: an append to a row that is owned; nothing may be appended -/
theorem step_append_at {P : Program} {w : World} {ops : Array Oper} {o : Oper} {a : Act} {K : Act → World → Prop} {Q : Exit → Act → World → Prop} {E : Prop} (hgd : o.guard = none) (s x : Operand) (t : TypeId)
    (ho : o.op = .call { callee := .builtin .append, args := #[s, x], argTypes := #[t, t] })
    (base : Nat) (e : TypeId) (i : TypeInfo) (z : Value) (size bytes : Nat) (ht : P.underlying t = some (.slice e)) (hi : P.info? e = some i) (hz : i.zero = some z)
    (hsize : i.size = size) (hby : i.bytes = bytes) (hzs : z.cells.size = size) (hsz : 0 < size)
    (v : Value) (n : Nat) (xs : List Value) (hs : a.eval s = v) (hown : w.ownsRow base e size v n xs)
    (ad : Addr) (m c : Nat) (news : List Value) (hx : a.eval x = .slice (some ad) m c) (hl : news.length = m * size) (hnews : ∀ j u, news[j]? = some u → w.cell? (ad.add j) = some u) (h1 : ∀ u ∈ news, u.oneCell' = true)
    (h63 : n + m ≤ maxLen) (hbytes : (n + m) * bytes ≤ 140737488355328) (hbase : base ≤ w.heap.size)
    (h : ∀ v' w', w'.ownsRow base e size v' (n + m) (xs ++ news) → w.grownBy w' v.ownBlock → K (a.put o.dst v') w') :
    if Region.wanted o (yielded ops a.tmps) = true then Oper.wp P o a w K Q else E := by
  have hw : Region.wanted o (yielded ops a.tmps) = true := by simp [Region.wanted, hgd]
  rw [if_pos hw]
  obtain ⟨v', w', hr, h2, h3, _, _⟩ := run_append_own_at (P := P) w base t o.type e i z size bytes ht hi hz hsize hby hzs hsz v n xs hown ad m c news hl hnews h1 h63 hbytes hbase
  unfold Oper.wp execOp
  simp only [ho, resolve, invoke, builtin, Sem.run_bind, Sem.run_pure, Result.andThen_ok, List.map_toArray, List.map_cons, List.map_nil, hs, hx, hr]
  exact h v' w' h2 h3
theorem step_append_none {P : Program} {w : World} {ops : Array Oper} {o : Oper} {a : Act} {K : Act → World → Prop} {Q : Exit → Act → World → Prop} {E : Prop} (hgd : o.guard = none) (s x : Operand) (t : TypeId)
    (ho : o.op = .call { callee := .builtin .append, args := #[s, x], argTypes := #[t, t] })
    (base : Nat) (e : TypeId) (i : TypeInfo) (size : Nat) (ht : P.underlying t = some (.slice e)) (hi : P.info? e = some i)
    (v : Value) (n : Nat) (xs : List Value) (hs : a.eval s = v) (hown : w.ownsRow base e size v n xs) (hx : a.eval x = .slice none 0 0) (m : Nat) (news : List Value) (hm : m = 0) (hn : news = [])
    (h : ∀ v' w', w'.ownsRow base e size v' (n + m) (xs ++ news) → w.grownBy w' v.ownBlock → K (a.put o.dst v') w') :
    if Region.wanted o (yielded ops a.tmps) = true then Oper.wp P o a w K Q else E := by
  have hw : Region.wanted o (yielded ops a.tmps) = true := by simp [Region.wanted, hgd]
  rw [if_pos hw]
  have hrun := run_append_owned_none (P := P) (w := w) base t o.type e i size ht hi v n xs hown
  unfold Oper.wp
  simp [execOp, ho, resolve, invoke, builtin, hs, hx, hrun, Result.andThen]
  subst hm hn
  exact h v w (by simpa using hown) ⟨rfl, rfl, rfl, Nat.le_refl _, fun k hk _ => rfl⟩
theorem infoTst : (Try.prog.info? 126).map (fun i => (i.zero, i.size, i.bytes)) = some (some (.agg #[.int .i64 0, .int .i64 0, .int .u64 0, .int .i64 0, .int .i64 0]), 5, 40) := by kernel_rfl
theorem uTestsL : Try.prog.underlying 81 = some (.slice 126) := by kernel_rfl
theorem infoRul : (Try.prog.info? 83).map (fun i => (i.zero, i.size, i.bytes)) = some (some (.agg #[.slice none 0 0, .bool false]), 2, 32) := by kernel_rfl
theorem uRulesL : Try.prog.underlying 29 = some (.slice 83) := by kernel_rfl
/-- a rule without addresses -/
def DRl.pl (r : DRl) : DRl := ⟨none, 0, r.when_, r.allow⟩
theorem ownsRow_apart {W : World} {b b' s s' n n' : Nat} {e e' : TypeId} {v v' : Value} {xs xs' : List Value} (h : W.ownsRow b e s v n xs) (h' : W.ownsRow b' e' s' v' n' xs') (hne : e ≠ e') : v.ownBlock = none ∨ v.ownBlock ≠ v'.ownBlock := by
  rcases h.2 with ⟨rfl, _⟩ | ⟨g, cap, cur, rfl, _, hg, _⟩
  · exact .inl rfl
  · rcases h'.2 with ⟨rfl, _⟩ | ⟨g', cap', cur', rfl, _, hg', _⟩
    · right; simp [Value.ownBlock]
    · right
      simp only [Value.ownBlock, ne_eq, Option.some.injEq]
      rintro rfl
      rw [hg] at hg'; cases hg'; exact hne rfl
theorem own_mono {W : World} {b e s n : Nat} {v : Value} {xs : List Value} (h : W.ownsRow b e s v n xs) : W.ownsRow 0 e s v n xs := ownsRow_low h (Nat.zero_le _)
theorem own_ge {W : World} {b e s n g : Nat} {v : Value} {xs : List Value} (h : W.ownsRow b e s v n xs) (hg : v.ownBlock = some g) : b ≤ g := (h.lt g hg).1
/-- a rule whose tests are a row -/
structure RowD (W : World) (r : DRl) : Prop where
  row : W.ownsRow 0 126 5 (.slice r.wa r.when_.length r.wc) r.when_.length (flat DTs.cells r.when_)
  len : r.when_.length ≤ 1000000
  set : ∀ t ∈ r.when_, 0 ≤ t.set ∧ t.set < 18446744073709551616
theorem RowD.grown {W W' : World} {r : DRl} (h : RowD W r) {row : Option Nat} (hg : W.grownBy W' row) (hr : ∀ v : Value, (∃ n xs, W.ownsRow 0 126 5 v n xs) → v.ownBlock = none ∨ v.ownBlock ≠ row) : RowD W' r :=
  ⟨h.row.kept hg (hr _ ⟨_, _, h.row⟩), h.len, h.set⟩
theorem RowD.below {W W' : World} {r : DRl} (h : RowD W r) (hb : Below W.heap.size W W') : RowD W' r :=
  h.grown (grown_none hb) fun v _ => by cases hv : v.ownBlock <;> simp
theorem RowD.rul {W : World} {r : DRl} (h : RowD W r) : RulAt W W.heap.size r := by
  obtain ⟨A, c, e, hs⟩ := Sl.of_own h.row
  have e2 : r.wa = A ∧ r.wc = c := by simpa using e
  exact ⟨h.len, h.set, by rw [e2.1]; exact hs⟩
/-- rules with rows of their own are returned -/
def RetRls (l : List DRl) (w : World) (e : Ending) (w' : World) : Prop := ∃ (A : Option Addr) (c : Nat) (l' : List DRl), e = .returned (.slice A l'.length c) ∧ l'.map DRl.pl = l.map DRl.pl ∧ Hid (w'.ownsRow w.heap.size 83 2 (.slice A l'.length c) l'.length (flat DRl.cells l')) ∧ (∀ r ∈ l', RowD w' r) ∧ Below w.heap.size w w'
theorem RetRls.at_ {w w' : World} {A : Option Addr} {c : Nat} {l' : List DRl} (h1 : w'.ownsRow w.heap.size 83 2 (.slice A l'.length c) l'.length (flat DRl.cells l')) (h2 : ∀ r ∈ l', RowD w' r) (hl : l'.length ≤ 1000000) : RlsAt w' w'.heap.size A l' := by
  obtain ⟨A', c', e, hs⟩ := Sl.of_own h1
  have e2 : A = A' ∧ c = c' := by simpa using e
  exact ⟨hl, by rw [e2.1]; exact hs, fun r hr => (h2 r hr).rul⟩
theorem flat_oneD (l : List DTs) : ∀ u ∈ flat DTs.cells l, u.oneCell' = true := by
  intro u hu
  obtain ⟨x, _, hx⟩ := List.mem_flatMap.1 hu
  simp [DTs.cells] at hx
  rcases hx with rfl | rfl | rfl | rfl | rfl <;> rfl
set_option maxRecDepth 100000 in
set_option maxHeartbeats 4000000 in
theorem rules_any (A : Option Addr) (c : Nat) (cs : List DRl) (w : World) (hr : RlsAt w w.heap.size A cs) (h0 : ∀ r ∈ cs, r.wa = none → r.wc = 0) (hl : cs.length ≤ 1000) : Calls Try.prog 20 #[.slice A cs.length c] w (RetRls cs w) := by
  obtain ⟨i1, hi1, iy0, iy1, iy2⟩ := info_parts infoRul
  obtain ⟨i0, hi0, iz0, iz1, iz2⟩ := info_parts infoTst
  have HRR := Lib.hid hr; have HN0 := Lib.hid h0
  clear hr h0
  go_enter Try.func20, Try.ntmps20
  go_upto_region 1 with fail
  go_wp2_with fail
  refine wp_world (fun W => Below w.heap.size w W ∧ w.heap.size < W.heap.size ∧ W.ownsRow w.heap.size 83 2 (.slice (some ⟨w.heap.size, 0, none⟩) 0 0) 0 []) ?_ ?_
  · refine ⟨by (repeat (first | exact Below.refl _ _ | assumption | (refine Below.alloc ?_ (by first | omega | (simp; omega) | (simp; done)) _) | (refine Below.setCell ?_ (by first | omega | (simp; omega) | (simp; done)) _) | (refine Below.drew ?_) | (refine belowN ?_ _) | (refine Below.trans ?_ (Below.mono ‹Below _ _ _› (by first | omega | (simp; omega) | (simp; done)))))), by simp, ?_⟩
    have := World.ownsRow_made (e := 83) (size := 2) w #[] 0 (base := w.heap.size) (by simp) (by simp) (by simp)
    simpa using this
  rintro w0 ⟨hbw, hz0, hown0⟩
  have HO0 := Lib.hid hown0
  go_loopw [3, 4] (fun v i wr => ∃ (j : Nat) (l : List DRl), j ≤ cs.length ∧ i = .int .i64 j ∧ Hid (l.length = j) ∧ Hid (wr.ownsRow w.heap.size 83 2 v l.length (flat DRl.cells l)) ∧ Hid (∀ r ∈ l, RowD wr r) ∧ Hid (l.map DRl.pl = (cs.take j).map DRl.pl) ∧
    Hid (Below w.heap.size w wr) ∧ w.heap.size < wr.heap.size) (fun _ i _ => cs.length - (intOf i).toNat)
  case atStart => exact ⟨0, [], by omega, rfl, rfl, HO0, (fun r hr => by cases hr), rfl, hbw, hz0⟩
  case round =>
    obtain ⟨j, l, hj, rfl, hlj, hown, hrows, hpl, hbr, hzr⟩ := hrel
    by_cases hlt : j < cs.length
    · have hrr := HRR.out.below hbr.out
      obtain ⟨ab, ao, rfl, hblk, hcell⟩ := hrr.sl.at_ (k := j) (fun _ => rfl) hlt
      have hq := hrr.rul _ (List.getElem_mem hlt)
      have hn0 := HN0.out _ (List.getElem_mem hlt)
      have HTK := Lib.hid (List.take_succ_eq_append_getElem hlt)
      obtain ⟨r, hre⟩ : ∃ t, cs[j] = t := ⟨_, rfl⟩
      rw [hre] at hcell hq hn0 HTK
      obtain ⟨qa, qc, ts, al⟩ := r
      have hq2 := hq.len
      have HQ3 := Lib.hid hq.set
      have hq1 := hq.sl
      simp only at hq1 hq2 hn0 HQ3
      have c0 : wr.cell? ⟨ab, ao + j * 2, none⟩ = some (.slice qa ts.length qc) := hcell 0 _ rfl
      have c1 : wr.cell? ⟨ab, ao + j * 2 + 1, none⟩ = some (.bool al) := hcell 1 _ rfl
      have hj0 : (0 : Int) ≤ (j : Int) := by omega
      have hj1 : (j : Int) < (cs.length : Int) := by omega
      have hab : ab < w.heap.size := hblk
      have habr : ab < wr.heap.size := by omega
      have HFL := Lib.hid hq1.1
      have HOC := Lib.hid (flat_oneD ts)
      have hnb : some ab ≠ u3.ownBlock := fun e => by have := own_ge hown.out e.symm; omega
      cases qa with
      | none =>
        obtain rfl : qc = 0 := hn0 rfl
        have hts : ts.length = 0 := by
          rcases Nat.eq_zero_or_pos ts.length with h | h
          · exact h
          · obtain ⟨b, o, e, _⟩ := hq1.2 h; cases e
        have HTL := Lib.hid hts
        have HFN : Hid (flat DTs.cells ts = []) := (by rw [List.eq_nil_of_length_eq_zero hts]; rfl : flat DTs.cells ts = [])
        have c0' : wr.cell? ⟨ab, ao + j * 2, none⟩ = some (.slice none 0 0) := by rw [c0, hts]
        clear hcell hre hrr hq1 hq hn0 hts c0
        have c0 := c0'
        clear c0'
        go_upto_region 5 with fail
        go_region_held_law (fun w' => w'.cell? ⟨ab, ao + j * 2, none⟩ = some (.slice none 0 0) ∧ w'.cell? ⟨ab, ao + j * 2 + 1, none⟩ = some (.bool al))
          (first | exact ⟨c0, c1⟩ | go_keep | (refine ⟨?_, ?_⟩ <;> (rw [hgrow.cell_far _ (by simp; omega) hnb]; simp [*])))
          (first |
            (refine step_append_none (by rfl) _ _ _ (by rfl) wr.heap.size 126 i0 5 uTestsL hi0 _ _ _ (by rfl) (World.ownsRow_made _ #[] 0 (by simp) (by simp) (by simp)) (by rfl) ts.length (flat DTs.cells ts) HTL.out HFN.out ?_; intro v1 w1 hown1 hgrow1; simp only [Nat.zero_add, List.nil_append] at hown1; obtain ⟨A1, k1, rfl⟩ := own_slice hown1; have hyc : Below wr.heap.size wr w1 := (by (repeat (first | exact Below.refl _ _ | assumption | (refine Below.alloc ?_ (by first | omega | (simp; omega) | (simp; done)) _) | (refine Below.setCell ?_ (by first | omega | (simp; omega) | (simp; done)) _) | (refine Below.drew ?_) | (refine belowN ?_ _) | (refine Below.trans ?_ (Below.mono ‹Below _ _ _› (by first | omega | (simp; omega) | (simp; done)))))) : Below wr.heap.size wr _).grown hgrow1 (by simp) (fun g hg => by simp [Value.ownBlock] at hg; omega); have c0 := (hyc.cell (p := ⟨ab, ao + j * 2, none⟩) habr).trans c0; have c1 := (hyc.cell (p := ⟨ab, ao + j * 2 + 1, none⟩) habr).trans c1; have HOW := Lib.hid (hown.out.kept (grown_none hyc) (by cases hv : u3.ownBlock <;> simp)); have HO1 := Lib.hid hown1; have hzc := hyc.size; clear hown1 hgrow1) |
            (refine step_append_lies _ (by rfl) _ _ _ (by rfl) w.heap.size 83 i1 (.agg #[.slice none 0 0, .bool false]) 2 32 uRulesL hi1 iy0 iy1 iy2 rfl (by omega) _ _ _ (by rfl) (HOW.out.alloc _) ⟨w1.heap.size, 0, none⟩ 1 1 [.slice A1 ts.length k1, .bool al] (by rfl) (by rfl) (World.news_of_block (cs := #[.slice A1 ts.length k1, .bool al]) (t := 83) (fr := (0, 0)) (heap_alloc_new w1 _)) (by simp [Value.oneCell']) (by omega) (by have := hlj.out; unfold maxLen; omega) (by have := hlj.out; omega) (by simp; omega) (w1.heap.size + 1) (by simp) ?_; intro gg cap w5 hown5 hgrow hat hgl))
        have hol := hlj.out
        have hb45 : Below w.heap.size wr w5 := ((hyc.mono (by omega)).alloc (by omega) _).grown hgrow (by simp; omega) (fun g hg => own_ge hown.out hg)
        have hbz5 : w1.heap.size < w5.heap.size := by have := hgrow.size; simp at this; omega
        go_wp2
        refine ⟨⟨j + 1, l ++ [⟨A1, k1, ts, al⟩], by omega, by simp, by show _ = _; simp [hol], by show World.ownsRow _ _ _ _ _ _ _; simpa [flat, DRl.cells, hol] using hown5, ?_, ?_, hbr.out.trans (hb45.mono (by omega)), by omega⟩, by simp [intOf]; omega⟩
        · show ∀ r ∈ _, _
          have hA : ∀ q : DRl, RowD (w1.alloc (.cells #[.slice A1 ts.length k1, .bool al] 83)) q → RowD w5 q := fun q hq => hq.grown hgrow fun v ⟨n', xs', h'⟩ =>
            ownsRow_apart h' (HOW.out.alloc (.cells #[.slice A1 ts.length k1, .bool al] 83)) (by decide)
          intro q hq
          rcases List.mem_append.1 hq with hq | hq
          · exact hA q (((hrows.out q hq).below hyc).below ((Below.refl _ _).alloc (Nat.le_refl _) _))
          · obtain rfl : q = _ := by simpa using hq
            exact hA _ (RowD.below (W := w1) ⟨own_mono HO1.out, hq2, HQ3.out⟩ ((Below.refl _ _).alloc (Nat.le_refl _) _))
        · show _ = _
          rw [HTK.out, List.map_append, List.map_append, hpl.out]; rfl
      | some qad =>
        have HNW : Hid (∀ (k : Nat) (u : Value), (flat DTs.cells ts)[k]? = some u → ∀ W, Below wr.heap.size wr W → W.cell? (qad.add k) = some u) := (fun k u hu W hW => by
          have hpos : 0 < ts.length := by
            rcases Nat.eq_zero_or_pos ts.length with h | h
            · have : ts = [] := List.eq_nil_of_length_eq_zero h
              subst this; simp [flat] at hu
            · exact h
          obtain ⟨b, o, e, hb, hc⟩ := hq1.2 hpos
          cases e
          rw [Go.WideShapes.add_plain, hW.cell (p := ⟨b, o + k, none⟩) (by show b < wr.heap.size; omega)]
          exact hc k u hu : ∀ (k : Nat) (u : Value), (flat DTs.cells ts)[k]? = some u → ∀ W, Below wr.heap.size wr W → W.cell? (qad.add k) = some u)
        clear hcell hre hrr hq1 hq hn0
        go_upto_region 5 with fail
        go_region_held_law (fun w' => w'.cell? ⟨ab, ao + j * 2, none⟩ = some (.slice (some qad) ts.length qc) ∧ w'.cell? ⟨ab, ao + j * 2 + 1, none⟩ = some (.bool al))
          (first | exact ⟨c0, c1⟩ | go_keep | (refine ⟨?_, ?_⟩ <;> (rw [hgrow.cell_far _ (by simp; omega) hnb]; simp [*])))
          (first |
            (refine step_append_at (by rfl) _ _ _ (by rfl) wr.heap.size 126 i0 (.agg #[.int .i64 0, .int .i64 0, .int .u64 0, .int .i64 0, .int .i64 0]) 5 40 uTestsL hi0 iz0 iz1 iz2 rfl (by omega) _ _ _ (by rfl) (World.ownsRow_made _ #[] 0 (by simp) (by simp) (by simp)) qad ts.length qc (flat DTs.cells ts) (by rfl) HFL.out (fun k u hu => HNW.out k u hu _ (by (repeat (first | exact Below.refl _ _ | assumption | (refine Below.alloc ?_ (by first | omega | (simp; omega) | (simp; done)) _) | (refine Below.setCell ?_ (by first | omega | (simp; omega) | (simp; done)) _) | (refine Below.drew ?_) | (refine belowN ?_ _) | (refine Below.trans ?_ (Below.mono ‹Below _ _ _› (by first | omega | (simp; omega) | (simp; done)))))))) HOC.out (by unfold maxLen; omega) (by omega) (by simp) ?_; intro v1 w1 hown1 hgrow1; simp only [Nat.zero_add, List.nil_append] at hown1; obtain ⟨A1, k1, rfl⟩ := own_slice hown1; have hyc : Below wr.heap.size wr w1 := (by (repeat (first | exact Below.refl _ _ | assumption | (refine Below.alloc ?_ (by first | omega | (simp; omega) | (simp; done)) _) | (refine Below.setCell ?_ (by first | omega | (simp; omega) | (simp; done)) _) | (refine Below.drew ?_) | (refine belowN ?_ _) | (refine Below.trans ?_ (Below.mono ‹Below _ _ _› (by first | omega | (simp; omega) | (simp; done)))))) : Below wr.heap.size wr _).grown hgrow1 (by simp) (fun g hg => by simp [Value.ownBlock] at hg; omega); have c0 := (hyc.cell (p := ⟨ab, ao + j * 2, none⟩) habr).trans c0; have c1 := (hyc.cell (p := ⟨ab, ao + j * 2 + 1, none⟩) habr).trans c1; have HOW := Lib.hid (hown.out.kept (grown_none hyc) (by cases hv : u3.ownBlock <;> simp)); have HO1 := Lib.hid hown1; have hzc := hyc.size; clear hown1 hgrow1) |
            (refine step_append_lies _ (by rfl) _ _ _ (by rfl) w.heap.size 83 i1 (.agg #[.slice none 0 0, .bool false]) 2 32 uRulesL hi1 iy0 iy1 iy2 rfl (by omega) _ _ _ (by rfl) (HOW.out.alloc _) ⟨w1.heap.size, 0, none⟩ 1 1 [.slice A1 ts.length k1, .bool al] (by rfl) (by rfl) (World.news_of_block (cs := #[.slice A1 ts.length k1, .bool al]) (t := 83) (fr := (0, 0)) (heap_alloc_new w1 _)) (by simp [Value.oneCell']) (by omega) (by have := hlj.out; unfold maxLen; omega) (by have := hlj.out; omega) (by simp; omega) (w1.heap.size + 1) (by simp) ?_; intro gg cap w5 hown5 hgrow hat hgl))
        have hol := hlj.out
        have hb45 : Below w.heap.size wr w5 := ((hyc.mono (by omega)).alloc (by omega) _).grown hgrow (by simp; omega) (fun g hg => own_ge hown.out hg)
        have hbz5 : w1.heap.size < w5.heap.size := by have := hgrow.size; simp at this; omega
        go_wp2
        refine ⟨⟨j + 1, l ++ [⟨A1, k1, ts, al⟩], by omega, by simp, by show _ = _; simp [hol], by show World.ownsRow _ _ _ _ _ _ _; simpa [flat, DRl.cells, hol] using hown5, ?_, ?_, hbr.out.trans (hb45.mono (by omega)), by omega⟩, by simp [intOf]; omega⟩
        · show ∀ r ∈ _, _
          have hA : ∀ q : DRl, RowD (w1.alloc (.cells #[.slice A1 ts.length k1, .bool al] 83)) q → RowD w5 q := fun q hq => hq.grown hgrow fun v ⟨n', xs', h'⟩ =>
            ownsRow_apart h' (HOW.out.alloc (.cells #[.slice A1 ts.length k1, .bool al] 83)) (by decide)
          intro q hq
          rcases List.mem_append.1 hq with hq | hq
          · exact hA q (((hrows.out q hq).below hyc).below ((Below.refl _ _).alloc (Nat.le_refl _) _))
          · obtain rfl : q = _ := by simpa using hq
            exact hA _ (RowD.below (W := w1) ⟨own_mono HO1.out, hq2, HQ3.out⟩ ((Below.refl _ _).alloc (Nat.le_refl _) _))
        · show _ = _
          rw [HTK.out, List.map_append, List.map_append, hpl.out]; rfl
    · obtain rfl : j = cs.length := by omega
      have hjl := hlj.out
      obtain ⟨A', c', hv⟩ := own_slice hown.out
      subst hv
      have HP := hpl
      go_wp2_with fail
      go_ret
      exact ⟨A', c', l, rfl, by rw [HP.out, List.take_length], hown, hrows.out, hbr.out⟩
end Go.Proofs.Ytfbnllmmoaialaa

/- Words: lists of integers in memory. -/
import Derived.Test.YtmfbiohdmhbkoaaMem
import Derived.Test.YtmfbiohdmhbkoaaPl
namespace Go.Proofs.Ytmfbiohdmhbkoaa
open Go.RowKit

def intCell (x : Int) : List Value := [.int .i64 x]
theorem infoInt : (Try.prog.info? 3).map (fun i => (i.zero, i.size, i.bytes)) = some (some (.int .i64 0), 1, 8) := by kernel_rfl
theorem uInts : Try.prog.underlying 22 = some (.slice 3) := by kernel_rfl
theorem gen_w {F : Act → World → Prop} {a : Act} {W : World} (P : World → Prop) (h : P W) (k : ∀ W', P W' → F a W') : F a W := k W h
theorem sl_one {α : Type} {f : α → List Value} {size : Nat} {W : World} {b t : Nat} {l : List α} {cs : Array Value} (h : Blk W b cs t) (hl : (flat f l).length = l.length * size) (hcs : (flat f l).toArray = cs) : Sl f size W W.heap.size (some ⟨b, 0, none⟩) l := by
  refine ⟨hl, fun _ => ⟨b, 0, rfl, h.lt, fun j u hu => ?_⟩⟩
  rw [Nat.zero_add, h.cell j, ← hcs]; simpa using hu
theorem sl_nil {α : Type} {f : α → List Value} {size : Nat} {W : World} {B : Nat} : Sl f size W B none [] := ⟨by simp [flat], fun h => by simp at h⟩
theorem bl3 {w W1 W2 : World} {o : Obj} (h1 : Below w.heap.size w W1) (h2 : Below (W1.alloc o).heap.size (W1.alloc o) W2) : Below w.heap.size w W2 :=
  h1.trans ((((Below.refl W1.heap.size W1).alloc (Nat.le_refl _) o).trans (h2.mono (by simp))).mono h1.size)
theorem bl2 {w W1 W2 : World} (h1 : Below w.heap.size w W1) (h2 : Below W1.heap.size W1 W2) : Below w.heap.size w W2 := h1.trans (h2.mono h1.size)
theorem bla {w W1 : World} {o : Obj} (h1 : Below w.heap.size w W1) : Below w.heap.size w (W1.alloc o) := h1.alloc h1.size o
/-- a slice of integers, at place k -/
theorem Sl.int_at {w : World} {B : Nat} {A : Option Addr} {l : List Int} (h : Sl intCell 1 w B A l) {k : Nat} (hk : k < l.length) : ∃ b o, A = some ⟨b, o, none⟩ ∧ b < B ∧ w.cell? ⟨b, o + k, none⟩ = some (.int .i64 l[k]) := by
  obtain ⟨b, o, e, hb, hc⟩ := h.at_ (fun _ => rfl) hk
  exact ⟨b, o, e, hb, by have := hc 0 _ rfl; simpa using this⟩
theorem Sl.len_pos {α : Type} {f : α → List Value} {size : Nat} {w : World} {B : Nat} {l : List α} (h : Sl f size w B none l) : l = [] := by
  rcases Nat.eq_zero_or_pos l.length with h1 | h1
  · exact List.eq_nil_of_length_eq_zero h1
  · obtain ⟨b, o, e, _⟩ := h.2 h1; cases e
theorem flat_int (l : List Int) : flat intCell l = l.map (Value.int .i64) := flat_one _ l
/-- a slice of integers and an error are returned -/
def RetSlE (l : List Int) (er : Int) (w : World) (e : Ending) (w' : World) : Prop :=
  ∃ A c, e = .returned (.tuple #[.slice A l.length c, .int .i64 er]) ∧ Sl intCell 1 w' w'.heap.size A l ∧ (A = none → c = 0) ∧ Below w.heap.size w w'
theorem retSlE_nil {er : Int} {w w' : World} (h : Below w.heap.size w w') : RetSlE [] er w (.returned (.tuple #[.slice none 0 0, .int .i64 er])) w' := ⟨none, 0, rfl, sl_nil, fun _ => rfl, h⟩
theorem ret_tup {k : IntKind} {a b c d : Int} (h : a = b) (h' : c = d) : Ending.returned (.tuple #[.int k a, .int k c]) = .returned (.tuple #[.int k b, .int k d]) := by rw [h, h']
/-- block b holds just these integers -/
abbrev Arr (W : World) (b : Nat) (l : List Int) : Prop := Blk W b (l.map (Value.int .i64)).toArray 3
section
variable {W : World} {b : Nat} {l : List Int}
theorem Arr.cell_ (h : Arr W b l) {j : Nat} {v : Int} (hv : l[j]? = some v) : W.cell? ⟨b, j, none⟩ = some (.int .i64 v) := by
  rw [Blk.cell h]; simp [hv]
theorem Arr.at_ (h : Arr W b l) {j : Nat} (hj : j < l.length) : W.cell? ⟨b, j, none⟩ = some (.int .i64 l[j]) := h.cell_ (List.getElem?_eq_getElem hj)
theorem Arr.put (h : Arr W b l) (j : Nat) (x : Int) : Arr (W.setCell ⟨b, j, none⟩ (.int .i64 x)) b (l.set j x) := by
  have := Blk.set h j (.int .i64 x)
  rw [List.setIfInBounds_toArray, ← List.map_set] at this
  exact this
theorem Arr.sl (h : Arr W b l) : Sl intCell 1 W W.heap.size (some ⟨b, 0, none⟩) l :=
  sl_one h (by rw [flat_int]; simp) (by rw [flat_int])
theorem Arr.lt_ (h : Arr W b l) : b < W.heap.size := Blk.lt h
end
theorem toList_madeCells_one' (z : Value) (n : Nat) (h : z.cells = #[z]) : (madeCells z.cells (n * 1)).toList = List.replicate n z := by rw [h, Nat.mul_one]; exact toList_madeCells_one z n
theorem wpList_make_arr {P : Program} (w : World) {ops : Array Oper} {rest : List Oper} {o : Oper} {a : Act} {Q : Exit → Act → World → Prop}
    (hg : o.guard = none) (l c : Operand) (hop : o.op = Op.makeSlice 22 l c) (i : TypeInfo) (h1 : P.underlying 22 = some (.slice 3)) (h2 : P.info? 3 = some i) (h3 : i.zero = some (.int .i64 0)) (h4 : i.size = 1) (h5 : i.bytes = 8)
    (kl kc : IntKind) (L C : Int) (n : Nat) (hl : a.eval l = .int kl L) (hc : a.eval c = .int kc C) (hL : L = (n : Int)) (hC : C = (n : Int)) (b3 : n ≤ 1000000000)
    (hK : ∀ w', Arr w' w.heap.size (List.replicate n 0) → Below w.heap.size w w' → Hid (wpList P ops Q rest (a.put o.dst (.slice (some ⟨w.heap.size, 0, none⟩) n n)) w')) :
    wpList P ops Q (o :: rest) a w := by
  refine wpList_make_full w hg l c 22 hop w.heap.size 3 i (.int .i64 0) 1 h1 h2 h3 h4 kl kc L C n hl hc hL hC (by rw [h5]; omega) (by unfold maxLen; omega) (Nat.le_refl _) ?_
  intro w' how hgr
  refine (hK w' ?_ ((Below.refl _ _).grown hgr (Nat.le_refl _) (fun g hg => by cases hg))).out
  rw [toList_madeCells_one' _ _ rfl] at how
  rcases how.2 with ⟨h', _⟩ | ⟨g', cap', cur, h', hb, hg, hnc, hcm, hcs, htake⟩
  · simp at h'
  · simp only [Value.slice.injEq, Option.some.injEq, Addr.mk.injEq, and_true, true_and] at h'
    obtain ⟨rfl, rfl⟩ := h'
    have : cur = (List.replicate n (Value.int .i64 0)).toArray := by
      rw [← htake, List.take_of_length_le (by simp [hcs])]
    show w'.heap[w.heap.size]? = some (.cells ((List.replicate n 0).map (Value.int .i64)).toArray 3 (0, 0))
    rw [List.map_replicate, ← this]; exact hg
/-- a slice of integers is returned -/
def RetL (l : List Int) (w : World) (e : Ending) (w' : World) : Prop :=
  ∃ A c, e = .returned (.slice A l.length c) ∧ Sl intCell 1 w' w'.heap.size A l ∧ (A = none → c = 0) ∧ Below w.heap.size w w'
theorem RetL.of_arr {l : List Int} {w w' : World} {b n : Nat} (h : Arr w' b l) (hn : n = l.length) (hb : Below w.heap.size w w') : RetL l w (.returned (.slice (some ⟨b, 0, none⟩) n n)) w' := ⟨_, _, by rw [hn], h.sl, fun e => (by cases e), hb⟩
theorem RetSlE.of_arr {l : List Int} {w w' : World} {b n : Nat} {er : Int} (h : Arr w' b l) (hn : n = l.length) (hb : Below w.heap.size w w') : RetSlE l er w (.returned (.tuple #[.slice (some ⟨b, 0, none⟩) n n, .int .i64 er])) w' := ⟨_, _, by rw [hn], h.sl, fun e => (by cases e), hb⟩
/-- a slice of lists of integers: addresses, capacities, lists -/
structure LL where
  a : Option Addr
  c : Nat
  l : List Int
def LL.val (x : LL) : Value := .slice x.a x.l.length x.c
def LL.cells (x : LL) : List Value := [x.val]
/-- lists of lists, that read below block B -/
structure Lists (w : World) (B : Nat) (A : Option Addr) (ls : List LL) : Prop where
  top : Sl LL.cells 1 w B A ls
  row : ∀ x ∈ ls, Sl intCell 1 w B x.a x.l
theorem Lists.below {w w' : World} {B : Nat} {A : Option Addr} {ls : List LL} (h : Lists w B A ls) (hb : Below B w w') : Lists w' B A ls := ⟨h.top.below hb, fun x hx => (h.row x hx).below hb⟩
theorem Lists.more {w : World} {B B' : Nat} {A : Option Addr} {ls : List LL} (h : Lists w B A ls) (hB : B ≤ B') : Lists w B' A ls := ⟨h.top.more hB, fun x hx => (h.row x hx).more hB⟩
theorem Lists.at_ {w : World} {B : Nat} {A : Option Addr} {ls : List LL} (h : Lists w B A ls) {k : Nat} (hk : k < ls.length) : ∃ b o, A = some ⟨b, o, none⟩ ∧ b < B ∧ w.cell? ⟨b, o + k, none⟩ = some (.slice ls[k].a ls[k].l.length ls[k].c) ∧ Sl intCell 1 w B ls[k].a ls[k].l := by
  obtain ⟨b, o, e, hb, hc⟩ := h.top.at_ (fun _ => rfl) hk
  exact ⟨b, o, e, hb, by have := hc 0 _ rfl; simpa [LL.val] using this, h.row _ (List.getElem_mem hk)⟩
end Go.Proofs.Ytmfbiohdmhbkoaa

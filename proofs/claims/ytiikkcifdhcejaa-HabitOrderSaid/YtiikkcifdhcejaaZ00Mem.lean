/- Words for memory: slices that read as lists. -/
import Derived.Test.YtiikkcifdhcejaaProg
import Derived.WalkKit
import Derived.WalkSpells
import Derived.WalkLawsBesides
import Derived.Lib.Hide
import Derived.Deep.QuietTactic
import Derived.BigQuiet
import Derived.Deep.AppendLies
import Derived.Deep.Draws
import Derived.Maps.AppendAt
import Derived.RangeFuncNested
import Derived.RangeFuncBound
import Derived.RangeFuncCalls
import Derived.RangeFuncLeaves
import Derived.OwnWalkIn
import Derived.TacticsInMore
import Derived.LoopNIn
import Derived.LoopIn
import Derived.OrdersIn
namespace Go.Proofs.Ytiikkcifdhcejaa
open Go.RowKit

/-- The slice of n elements of 'size' cells at A holds the cells xs, in blocks below B. -/
def Reads (w : World) (B size : Nat) (A : Option Addr) (n : Nat) (xs : List Value) : Prop :=
  xs.length = n * size ∧ (0 < n → ∃ b o, A = some ⟨b, o, none⟩ ∧ b < B ∧ ∀ j u, xs[j]? = some u → w.cell? ⟨b, o + j, none⟩ = some u)

section
variable {w w' : World} {B B' size n : Nat} {A : Option Addr} {xs : List Value}
theorem Reads.none_ : Reads w B size A 0 [] := ⟨by simp, fun h => absurd h (by omega)⟩
theorem Reads.keep (h : Reads w B size A n xs) (hk : ∀ p : Addr, p.block < B → w'.cell? p = w.cell? p) : Reads w' B size A n xs :=
  ⟨h.1, fun hn => by
    obtain ⟨b, o, e, hb, hc⟩ := h.2 hn
    exact ⟨b, o, e, hb, fun j u hu => (hk _ hb).trans (hc j u hu)⟩⟩
theorem Reads.more (h : Reads w B size A n xs) (hB : B ≤ B') : Reads w B' size A n xs :=
  ⟨h.1, fun hn => by
    obtain ⟨b, o, e, hb, hc⟩ := h.2 hn
    exact ⟨b, o, e, by omega, hc⟩⟩
theorem Reads.below (h : Reads w B size A n xs) (hb : Below B w w') : Reads w' B size A n xs := h.keep fun _ hp => hb.cell hp
theorem Reads.at_ {k : Nat} (h : Reads w B size A n xs) (hk : k < n) : ∃ b o, A = some ⟨b, o, none⟩ ∧ b < B ∧ ∀ j, j < size → ∃ u, xs[k * size + j]? = some u ∧ w.cell? ⟨b, o + k * size + j, none⟩ = some u := by
  obtain ⟨b, o, e, hb, hc⟩ := h.2 (by omega)
  refine ⟨b, o, e, hb, fun j hj => ?_⟩
  have hl : k * size + j < xs.length := by
    rw [h.1]
    calc k * size + j < k * size + size := by omega
      _ = (k + 1) * size := by rw [Nat.add_mul]; omega
      _ ≤ n * size := Nat.mul_le_mul_right _ (by omega)
  exact ⟨xs[k * size + j], List.getElem?_eq_getElem hl, by rw [Nat.add_assoc]; exact hc _ _ (List.getElem?_eq_getElem hl)⟩
end
/-! Regions that draw their order, whose operations read old cells, and whose callees make memory at most: one walk, in the order of the text. -/
structure Grow (w : World) where
  to : World
  h : Below w.heap.size w to
instance Grow.some (w : World) : Nonempty (Grow w) := ⟨⟨w, Below.refl _ _⟩⟩
def World.ext (w : World) (E : Grow w) : World := E.to
theorem World.cell?_ext (w : World) (E : Grow w) (a : Addr) (h : (w.cell? a).isSome = true) : (World.ext w E).cell? a = w.cell? a := by
  cases hc : w.cell? a with
  | none => rw [hc] at h; cases h
  | some v =>
    have hlt := World.block_lt_of_cell? w a hc
    rw [← hc]; exact E.h.cell hlt
theorem World.size_ext (w : World) (E : Grow w) : w.heap.size ≤ (World.ext w E).heap.size := E.h.size
theorem ext_below {w w' : World} (h : ∃ E, w' = World.ext w E) : Below w.heap.size w w' := by obtain ⟨E, rfl⟩ := h; exact E.h
theorem ext_of {w w' : World} (h : Below w.heap.size w w') : ∃ E, w' = World.ext w E := ⟨⟨w', h⟩, rfl⟩
attribute [go_sem] World.cell?_ext
theorem Below.ext {B : Nat} {a w : World} (h : Below B a w) (hB : B ≤ w.heap.size) (E : Grow w) : Below B a (World.ext w E) := h.trans (E.h.mono hB)
theorem wp_region_ext {P : Program} {id : Nat} {Q : Exit → Act → World → Prop} {a : Act} {w : World} {l : List Oper} (hm : P.follows .mixedOrders = true) (hB : Region.lexB .any l.toArray = true)
    (h : wpQuiet P l.toArray (fun w' => ∃ E, w' = World.ext w E) (fun a' => ∀ w', (∃ E, w' = World.ext w E) → Q .normal a' w') l a) : (Code.region id l.toArray true).wp P Q a w :=
  wp_region_quiet (C := fun w' => ∃ E, w' = World.ext w E) hm hB (ext_of ((Below.refl _ w).drew)) (by simpa using h)
theorem Calls.ext_of {P : Program} {f : FuncId} {args : Array Value} {w : World} {E : Grow w} {v : Value}
    (h : Calls P f args (World.ext w E) fun e w' => e = .returned v ∧ Below (World.ext w E).heap.size (World.ext w E) w') : Calls P f args (World.ext w E) fun e w'' => e = .returned v ∧ ∃ E, w'' = World.ext w E :=
  h.mono fun _ _ ⟨he, hb⟩ => ⟨he, Go.Proofs.Ytiikkcifdhcejaa.ext_of (E.h.trans (hb.mono (World.size_ext w E)))⟩
theorem Calls.ext_same {P : Program} {f : FuncId} {args : Array Value} {w : World} {E : Grow w} {v : Value}
    (h : Calls P f args (World.ext w E) fun e w' => e = .returned v ∧ World.ext w E = w') : Calls P f args (World.ext w E) fun e w'' => e = .returned v ∧ ∃ E, w'' = World.ext w E :=
  h.mono fun _ _ ⟨he, hb⟩ => ⟨he, E, hb.symm⟩
/-- Function g has a body: a call of its value enters it. -/
def Ent (g : Nat) : Prop := ∀ (args : Array Value) (w : World), (callFunc g args).run Try.prog w = .ok (.enter g args) w
theorem ent_of {g : Nat} {fn : Func} (hf : Try.prog.funcs[g]? = some fn) (hn : (fn.name == "runtime.NumGoroutine") = false) (hb : fn.body.isNone = false) : Ent g := fun args w => by
  have h1 : ¬ fn.name = "runtime.NumGoroutine" := by simpa using hn
  have h2 : ¬ fn.body = none := fun h => by rw [h] at hb; cases hb
  simp [callFunc, hf, h1, h2]
theorem bcell {W w1 : World} {B : Nat} (hb : Below B W w1) : (∀ b o, b < B → w1.cell? ⟨b, o, none⟩ = W.cell? ⟨b, o, none⟩) ∧ (∀ b o, b < B → w1.frozen? ⟨b, o, none⟩ = W.frozen? ⟨b, o, none⟩) :=
  ⟨fun b o h => hb.cell (p := ⟨b, o, none⟩) h, fun b o h => hb.frozen (p := ⟨b, o, none⟩) h⟩
theorem upto_succ {P : Nat → Prop} {k : Nat} (h : Hid (∀ j, j < k → P j)) (hk : P k) : Hid (∀ j, j < k + 1 → P j) := fun j hj => by
  rcases Nat.lt_succ_iff_lt_or_eq.1 hj with h1 | h1
  · exact h.out j h1
  · exact h1 ▸ hk
theorem belowN {B : Nat} {a w : World} (h : Below B a w) (n : Nat) : Below B a (w.drewN n) := ⟨h.os, h.tape, h.output, h.size, h.block⟩
theorem ret_int {k : IntKind} {a b : Int} (h : a = b) : Ending.returned (.int k a) = .returned (.int k b) := by rw [h]
theorem ret_bool {a b : Bool} (h : a = b) : Ending.returned (.bool a) = .returned (.bool b) := by rw [h]

/-- the first index at which p holds, from k on; -1 if there is none -/
def firstFrom {α : Type} (p : α → Bool) : List α → Nat → Int
  | [], _ => -1
  | x :: l, k => if p x then k else firstFrom p l (k + 1)
def firstIdx {α : Type} (p : α → Bool) (l : List α) : Int := firstFrom p l 0
theorem firstFrom_none {α : Type} (p : α → Bool) (l : List α) : ∀ k, (∀ x ∈ l, p x = false) → firstFrom p l k = -1 := by
  induction l with
  | nil => intros; rfl
  | cons x l ih => intro k h; simp only [firstFrom]; rw [if_neg (by simp [h x (by simp)])]; exact ih _ fun y hy => h y (by simp [hy])
theorem firstFrom_at {α : Type} (p : α → Bool) (l : List α) : ∀ k i, (h : i < l.length) → (∀ j, (hj : j < i) → p (l[j]'(by omega)) = false) → p l[i] = true → firstFrom p l k = (k + i : Nat) := by
  induction l with
  | nil => intro k i h; simp at h
  | cons x l ih =>
    intro k i h hn hp
    cases i with
    | zero => simp only [firstFrom]; rw [if_pos (by simpa using hp)]; simp
    | succ i =>
      simp only [firstFrom]
      have h0 := hn 0 (by omega)
      rw [if_neg (by simpa using h0), ih (k + 1) i (by simpa using h) (fun j hj => by simpa using hn (j + 1) (by omega)) (by simpa using hp)]
      congr 1; omega
theorem firstIdx_none {α : Type} (p : α → Bool) (l : List α) (h : ∀ k, (hk : k < l.length) → p l[k] = false) : firstIdx p l = -1 :=
  firstFrom_none p l 0 fun x hx => by obtain ⟨i, hi, rfl⟩ := List.mem_iff_getElem.1 hx; exact h i hi
theorem firstIdx_at {α : Type} (p : α → Bool) (l : List α) (i : Nat) (h : i < l.length) (hn : ∀ j, (hj : j < i) → p (l[j]'(by omega)) = false) (hp : p l[i] = true) : firstIdx p l = (i : Int) := by
  have := firstFrom_at p l 0 i h hn hp; simpa [firstIdx] using this
theorem firstFrom_any {α : Type} (p : α → Bool) (l : List α) : ∀ k : Nat, decide (0 ≤ firstFrom p l k) = l.any p := by
  induction l with
  | nil => intro k; simp [firstFrom]
  | cons x l ih =>
    intro k
    simp only [firstFrom, List.any_cons]
    by_cases h : p x = true
    · simp [h]
    · simp only [Bool.not_eq_true] at h; simp [h, ih]
theorem firstIdx_any {α : Type} (p : α → Bool) (l : List α) : decide (0 ≤ firstIdx p l) = l.any p := firstFrom_any p l 0

/-- cells of a list of n-cell things -/
def flat {α : Type} (f : α → List Value) (l : List α) : List Value := l.flatMap f
theorem flat_length {α : Type} (f : α → List Value) (size : Nat) (hf : ∀ x, (f x).length = size) (l : List α) : (flat f l).length = l.length * size := by
  induction l with
  | nil => simp [flat]
  | cons x l ih => simp only [flat, List.flatMap_cons, List.length_append, hf, List.length_cons] at *; rw [ih, Nat.add_mul]; omega
theorem flat_get {α : Type} (f : α → List Value) (size : Nat) (hf : ∀ x, (f x).length = size) (l : List α) : ∀ (k j : Nat) (hk : k < l.length), j < size → (flat f l)[k * size + j]? = (f l[k])[j]? := by
  induction l with
  | nil => intro k j hk; simp at hk
  | cons x l ih =>
    intro k j hk hj
    simp only [flat, List.flatMap_cons] at *
    cases k with
    | zero => rw [List.getElem?_append_left (by rw [hf]; omega)]; simp
    | succ k =>
      rw [List.getElem?_append_right (by rw [hf, Nat.add_mul]; omega), hf, show (k + 1) * size + j - size = k * size + j by rw [Nat.add_mul]; omega]
      simpa using ih k j (by simpa using hk) hj

/-- A slice of things of 'size' cells each. -/
def Sl {α : Type} (f : α → List Value) (size : Nat) (w : World) (B : Nat) (A : Option Addr) (l : List α) : Prop := Reads w B size A l.length (flat f l)
theorem Sl.below {α : Type} {f : α → List Value} {size : Nat} {w w' : World} {B : Nat} {A : Option Addr} {l : List α} (h : Sl f size w B A l) (hb : Below B w w') : Sl f size w' B A l := Reads.below h hb
theorem Sl.more {α : Type} {f : α → List Value} {size : Nat} {w : World} {B B' : Nat} {A : Option Addr} {l : List α} (h : Sl f size w B A l) (hB : B ≤ B') : Sl f size w B' A l := Reads.more h hB
theorem Sl.at_ {α : Type} {f : α → List Value} {size : Nat} {w : World} {B : Nat} {A : Option Addr} {l : List α} (h : Sl f size w B A l) (hf : ∀ x, (f x).length = size) {k : Nat} (hk : k < l.length) :
    ∃ b o, A = some ⟨b, o, none⟩ ∧ b < B ∧ ∀ j u, (f l[k])[j]? = some u → w.cell? ⟨b, o + k * size + j, none⟩ = some u := by
  obtain ⟨b, o, e, hb, hc⟩ := Reads.at_ h hk
  refine ⟨b, o, e, hb, fun j u hu => ?_⟩
  have hj : j < size := by
    rcases Nat.lt_or_ge j size with h | h
    · exact h
    · rw [List.getElem?_eq_none (by rw [hf]; exact h)] at hu; cases hu
  obtain ⟨v, hv, hcell⟩ := hc j hj
  rw [flat_get f size hf l k j hk hj, hu] at hv
  cases hv
  exact hcell

theorem Sl.of_own {α : Type} {f : α → List Value} {size : Nat} {w : World} {base : Nat} {e : TypeId} {v : Value} {l : List α} (h : w.ownsRow base e size v l.length (flat f l)) :
    ∃ A c, v = .slice A l.length c ∧ Sl f size w w.heap.size A l := by
  rcases h.2 with ⟨rfl, h0⟩ | ⟨g, cap, cur, rfl, hb, hg, hn, hc, hs, ht⟩
  · exact ⟨none, 0, by rw [h0], ⟨h.1, fun hn => by omega⟩⟩
  · refine ⟨_, _, rfl, ⟨h.1, fun hn => ⟨g, 0, rfl, ?_, fun j u hu => ?_⟩⟩⟩
    · rcases Nat.lt_or_ge g w.heap.size with hlt | hge
      · exact hlt
      · rw [Array.getElem?_eq_none hge] at hg; cases hg
    · have := h.cells (g := g) rfl j u hu
      rw [Go.WideShapes.add_plain] at this
      exact this
/-- the call returns a new slice that holds l -/
def RetOwn {α : Type} (e : TypeId) (f : α → List Value) (size : Nat) (l : List α) (w : World) (en : Ending) (w' : World) : Prop :=
  ∃ v, en = .returned v ∧ w'.ownsRow w.heap.size e size v l.length (flat f l) ∧ Below w.heap.size w w'
theorem wp_world {P : Program} {c : Code} {Q : Exit → Act → World → Prop} {a : Act} {w0 : World} (F : World → Prop) (h0 : F w0) (h : ∀ W, F W → c.wp P Q a W) : c.wp P Q a w0 := h w0 h0
/-- block b holds just these cells -/
abbrev Blk (W : World) (b : Nat) (cs : Array Value) (t : TypeId) : Prop := W.heap[b]? = some (.cells cs t (0, 0))
theorem Blk.cell {W : World} {b : Nat} {cs : Array Value} {t : TypeId} (h : Blk W b cs t) (i : Nat) : W.cell? ⟨b, i, none⟩ = cs[i]? := cell_of_row W b i cs t (0, 0) h
theorem Blk.free {W : World} {b : Nat} {cs : Array Value} {t : TypeId} (h : Blk W b cs t) (i : Nat) : W.frozen? ⟨b, i, none⟩ = false := frozen_of_row W b i cs t h
theorem Blk.lt {W : World} {b : Nat} {cs : Array Value} {t : TypeId} (h : Blk W b cs t) : b < W.heap.size := (Array.getElem?_eq_some_iff.1 h).1
theorem Blk.below {W W' : World} {b B : Nat} {cs : Array Value} {t : TypeId} (h : Blk W b cs t) (hb : Below B W W') (hB : b < B) : Blk W' b cs t := (hb.block b hB).trans h
theorem Blk.set {W : World} {b : Nat} {cs : Array Value} {t : TypeId} (h : Blk W b cs t) (i : Nat) (v : Value) : Blk (W.setCell ⟨b, i, none⟩ v) b (cs.setIfInBounds i v) t := heap_setCell_same W b i cs t v h
theorem Blk.far {W : World} {b : Nat} {cs : Array Value} {t : TypeId} (h : Blk W b cs t) (p : Addr) (hp : b ≠ p.block) (v : Value) : Blk (W.setCell p v) b cs t := (Below.heap_setCell W p v b hp).trans h
theorem Blk.new (W : World) (cs : Array Value) (t : TypeId) : Blk (W.alloc (.cells cs t)) W.heap.size cs t := heap_alloc_new W _
theorem Blk.at_ {W : World} {n : Nat} {cs : Array Value} {t : TypeId} (h : n = W.heap.size) : Blk (W.alloc (.cells cs t)) n cs t := h ▸ heap_alloc_new W _
theorem Blk.alloc {W : World} {b : Nat} {cs : Array Value} {t : TypeId} (h : Blk W b cs t) (o : Obj) : Blk (W.alloc o) b cs t := (Below.heap_alloc W o b h.lt).trans h
theorem flat_one {α : Type} (f : α → Value) (l : List α) : flat (fun x => [f x]) l = l.map f := by
  induction l with
  | nil => rfl
  | cons x l ih => simp only [flat, List.flatMap_cons, List.map_cons] at *; rw [ih]; rfl
theorem flat_snoc {α : Type} (f : α → List Value) (l : List α) (x : α) : flat f (l ++ [x]) = flat f l ++ f x := by simp [flat]
end Go.Proofs.Ytiikkcifdhcejaa
namespace Go.Proofs.Ytiikkcifdhcejaa
open Go.RowKit

/-- what holds of a world holds when a block that is no cells, from B on, has turned, or blocks have come -/
def Stab (B : Nat) (I : World → Prop) : Prop :=
  ∀ W W' row, I W → W.grownBy W' row → (∀ r, row = some r → B ≤ r ∧ ∃ o : Obj, W.heap[r]? = some o ∧ o.isCells = false) → I W'
theorem Stab.putObj {B : Nat} {I : World → Prop} (h : Stab B I) {W : World} {l : Nat} {o : Obj} (o' : Obj) (hs : I W) (hB : B ≤ l) (hl : W.heap[l]? = some o) (ho : o.isCells = false) : I (W.putObj l o') :=
  h W _ (some l) hs (grownBy_putObj' W l o') (fun r e => by cases e; exact ⟨hB, o, hl, ho⟩)
theorem Stab.below {B : Nat} {I : World → Prop} (h : Stab B I) {W W' : World} (hs : I W) (hb : Below W.heap.size W W') : I W' :=
  h W W' none hs ⟨hb.os, hb.tape, hb.output, hb.size, fun k hk _ => hb.block k hk⟩ (fun r e => by cases e)
theorem Stab.and {B : Nat} {I I' : World → Prop} (h : Stab B I) (h' : Stab B I') : Stab B (fun W => I W ∧ I' W) := fun W W' row hs hg hr => ⟨h W W' row hs.1 hg hr, h' W W' row hs.2 hg hr⟩
theorem Stab.pure {B : Nat} (p : Prop) : Stab B (fun _ => p) := fun _ _ _ h _ _ => h
theorem Stab.ex {B : Nat} {α : Type} {I : α → World → Prop} (h : ∀ x, Stab B (I x)) : Stab B (fun W => ∃ x, I x W) := fun W W' row ⟨x, hx⟩ hg hr => ⟨x, h x W W' row hx hg hr⟩
theorem Stab.low {B b : Nat} (hb : b ≤ B) (w : World) (hw : b ≤ w.heap.size) : Stab B (fun W => Below b w W) := fun _W _W' _row hs hg hr =>
  hs.grown hg (Nat.le_trans hw hs.size) (fun k e => Nat.le_trans hb (hr k e).1)
theorem Stab.cell {B : Nat} (a : Addr) (v : Value) : Stab B (fun W => W.cell? a = some v) := fun _ _ _ hs hg hr => cell_kept hs hg (fun r e => (hr r e).2)
theorem Stab.free {B : Nat} (a : Addr) (v : Value) : Stab B (fun W => W.cell? a = some v ∧ W.frozen? a = false) := fun _ _ _ hs hg hr =>
  ⟨cell_kept hs.1 hg (fun r e => (hr r e).2), (frozen_kept hs.1 hg (fun r e => (hr r e).2)).trans hs.2⟩
theorem Stab.blk {B : Nat} (b : Nat) (cs : Array Value) (t : TypeId) (f : Nat × Nat) : Stab B (fun W => W.heap[b]? = some (.cells cs t f)) := fun W W' row hs hg hr => by
  refine (hg.block b (Array.getElem?_eq_some_iff.1 hs).1 fun e => ?_).trans hs
  obtain ⟨_, o, ho, hc⟩ := hr b e.symm
  rw [hs] at ho; cases ho; cases hc
theorem Stab.lowBlk {B : Nat} (b : Nat) (hb : b < B) (o : Obj) : Stab B (fun W => W.heap[b]? = some o) := fun W W' row hs hg hr => by
  refine (hg.block b (Array.getElem?_eq_some_iff.1 hs).1 fun e => ?_).trans hs
  have := (hr b e.symm).1; omega
theorem Stab.owns {B base : Nat} (e : TypeId) (size : Nat) (v : Value) (n : Nat) (xs : List Value) : Stab B (fun W => W.ownsRow base e size v n xs) := fun W W' row hs hg hr => by
  refine hs.kept hg ?_
  rcases hs.2 with ⟨rfl, _⟩ | ⟨g, cap, cur, rfl, _, hgb, _⟩
  · exact .inl rfl
  · refine .inr fun ee => ?_
    obtain ⟨_, o, ho, hc⟩ := hr g ee.symm
    rw [hgb] at ho; cases ho; cases hc
theorem Stab.reads {B b size n : Nat} (A : Option Addr) (xs : List Value) : Stab B (fun W => Reads W b size A n xs) := fun W W' row hs hg hr =>
  ⟨hs.1, fun hn => by
    obtain ⟨bb, o, e, hb, hc⟩ := hs.2 hn
    exact ⟨bb, o, e, hb, fun j u hu => cell_kept (hc j u hu) hg (fun r e => (hr r e).2)⟩⟩
theorem Stab.size {B n : Nat} : Stab B (fun W => n ≤ W.heap.size) := fun _ _ _ hs hg _ => Nat.le_trans hs hg.size

/-- THE ITERATOR: called with yield it makes N rounds, unless it is told to stop; round k is handed what Enc says; D is what it wants to find between two rounds. -/
def Iter (gf : Nat) (lb : Array Value) (D : World → Prop) (Enc : Nat → World → Array Value → Prop) (N : Nat) : Prop :=
  ∀ (l : Nat) (J : Nat → World → Prop) (Jx : World → Prop) (W : World),
    (∀ k W W', J k W → Below W.heap.size W W' → J k W') → (∀ W W', Jx W → Below W.heap.size W W' → Jx W') → (∀ k W, J k W → D W) →
    (∀ k W xs, k < N → J k W → Enc k W xs → YieldAt Fence.wide 1 Try.prog l xs W fun e W' => (e = .returned (.bool true) ∧ J (k + 1) W') ∨ (e = .returned (.bool false) ∧ Jx W')) →
    J 0 W → Calls Try.prog gf (#[.func (.yield l) #[] #[]] ++ lb) W fun e W' => (∃ v, e = .returned v) ∧ (J N W' ∨ Jx W')

/-- how a round may be left -/
def roundOut (B : Nat) (I : World → Prop) (Ix : Code → World → Prop) (W : World) : Exit → Act → World → Prop
  | .normal, _, W' => KeepsFrom B W W' ∧ I W'
  | .ret, _, W' => KeepsFrom B W W' ∧ Ix .ret W'
  | .exit id, _, W' => KeepsFrom B W W' ∧ Ix (.exit id) W'
  | .goto t, _, W' => KeepsFrom B W W' ∧ Ix (.goto t) W'
  | .panic _, _, _ => False
  | .outgrown, _, _ => False
/-- what stands behind the assignment to the loop's variables -/
def assignOut (B : Nat) (Ax : Act → World → Prop) (W : World) : Exit → Act → World → Prop
  | .normal, a, W' => KeepsFrom B W W' ∧ Ax a W'
  | _, _, _ => False

theorem wp_range {g : Operand} {ps : Array Tmp} {assign body : Code} {Q : Exit → Act → World → Prop} {a : Act} {w : World} {gf : Nat} {lb : Array Value}
    (hg : a.eval g = .func (.func gf) #[] lb) (eg : Ent gf) {D : World → Prop} {Enc : Nat → World → Array Value → Prop} {N : Nat} (hit : Iter gf lb D Enc N)
    (I : Nat → World → Prop) (Ix : Code → World → Prop) (Ax : Nat → Act → World → Prop)
    (hI : ∀ k, Stab w.heap.size (I k)) (hIx : ∀ c, Stab w.heap.size (Ix c)) (hAx : ∀ k a₁, Stab w.heap.size (Ax k a₁)) (hD : ∀ k W, I k W → D W) (h0 : I 0 w)
    (hps : ∀ k W xs, k < N → I k W → Enc k W xs → xs.size = ps.size)
    (hassign : ∀ l k xs W, k < N → I k W → Enc k W xs → w.heap.size < l → l < W.heap.size → assign.wpIn (Fence.wide.inRound l) 1 Try.prog (assignOut w.heap.size (Ax k) W) { tmps := (ps.zip xs).foldl (fun t (p, v) => t.setIfInBounds p v) a.tmps, defers := [] } W)
    (hbody : ∀ l k a₁ W, k < N → Ax k a₁ W → w.heap.size < l → l < W.heap.size → body.wpIn (Fence.wide.inRound l) 1 Try.prog (roundOut w.heap.size (I (k + 1)) Ix W) a₁ W)
    (hdone : ∀ D W, I N W → w.heap.size ≤ D → W.heap[D]? = some (.deferred (some [])) → Q .normal { a with defers := { target := .collected D, args := #[] } :: a.defers } W)
    (hstop : ∀ D c W, Ix c W → w.heap.size ≤ D → W.heap[D]? = some (.deferred (some [])) → c.wp Try.prog Q { a with defers := { target := .collected D, args := #[] } :: a.defers } W) :
    (Code.rangeFunc g ps assign body).wp Try.prog Q a w := by
  rw [← wpIn_wide (n := 2)]
  refine wpIn_rangeFunc ?_
  intro fn hfn
  have hro : Fence.wide.round = none := rfl
  rw [hro]
  obtain ⟨rec, hrec⟩ : ∃ rec : LoopState → Option Code → Loop, rec = fun st pe => { state := st, pending := pe, fn, tmps := a.tmps, params := ps, assign, body, defers := w.heap.size } := ⟨_, rfl⟩
  obtain ⟨W1, hW1⟩ : ∃ W1, (w.alloc (.deferred (some []))).alloc (.loop (rec .ready none)) = W1 := ⟨_, rfl⟩
  have hL1 : W1.heap[w.heap.size + 1]? = some (.loop (rec .ready none)) := by
    rw [← hW1]; have := World.alloc_heap_new (w.alloc (.deferred (some []))) (.loop (rec .ready none)); rwa [World.size_alloc] at this
  have hK1 : W1.heap[w.heap.size]? = some (.deferred (some [])) := by
    rw [← hW1]; exact (Below.heap_alloc _ _ _ (by simp)).trans (World.alloc_heap_new w _)
  have hb1 : Below w.heap.size w W1 := by rw [← hW1]; exact ((Below.refl _ w).alloc (Nat.le_refl _) _).alloc (by simp) _
  have hI1 : I 0 W1 := (hI 0).below h0 hb1
  have keepL : ∀ {W W' : World} {k : Nat} {o : Obj}, Below W.heap.size W W' → W.heap[k]? = some o → W'.heap[k]? = some o := fun hb ho => (hb.block _ (Array.getElem?_eq_some_iff.1 ho).1).trans ho
  refine ⟨w.heap.size + 1, [{ target := .collected w.heap.size, args := #[] }], W1, { target := .fn (.func gf) lb, args := #[.func (.yield (w.heap.size + 1)) #[] #[]] }, W1, gf,
    #[.func (.yield (w.heap.size + 1)) #[] #[]] ++ lb, W1, ?_, ?_, ?_, ?_, fun _ => by omega, ?_⟩
  · rw [← hW1, hrec]; exact run_enterLoop_outer _ _ _ _ _
  · simp only [resolve, hg]
    simp [go_sem]
  · intro f' hf'; trivial
  · simp [invoke, go_sem, eg _ _]
  · refine callsIn_wide.2 ?_
    refine (hit (w.heap.size + 1)
      (fun k W => I k W ∧ W.heap[w.heap.size + 1]? = some (.loop (rec .ready none)) ∧ W.heap[w.heap.size]? = some (.deferred (some [])))
      (fun W => ∃ c, Ix c W ∧ W.heap[w.heap.size + 1]? = some (.loop (rec .done (some c))) ∧ W.heap[w.heap.size]? = some (.deferred (some [])))
      W1 (fun k W W' h hb => ⟨(hI k).below h.1 hb, keepL hb h.2.1, keepL hb h.2.2⟩)
      (fun W W' ⟨c, h⟩ hb => ⟨c, (hIx c).below h.1 hb, keepL hb h.2.1, keepL hb h.2.2⟩) (fun k W h => hD k W h.1) ?_ ⟨hI1, hL1, hK1⟩).mono ?_
    · rintro k W xs hk ⟨hi, hl, hkk⟩ henc
      have hlt : w.heap.size + 1 < W.heap.size := (Array.getElem?_eq_some_iff.1 hl).1
      have hy := run_yield (P := Try.prog) (args := xs) hl (by rw [hrec]; exact hps k W xs hk hi henc)
      rw [hrec] at hy
      refine ⟨fn, _, assign, body, hy, roundIn_of_wpIn hfn (wpIn_mono (hassign _ k xs W hk hi henc (by omega) hlt) ?_)⟩
      intro e a₁ W2 hp
      cases e with
      | normal =>
        obtain ⟨hkf, hax⟩ := hp
        have hl2 := hkf.same _ _ (by omega) hl rfl
        have hk2 := hkf.same _ _ (Nat.le_refl _) hkk rfl
        refine ⟨_, run_beginRound hl2 (by rw [hrec]), ?_⟩
        have hlt2 : w.heap.size + 1 < W2.heap.size := (Array.getElem?_eq_some_iff.1 hl2).1
        have hl3 : (W2.putObj (w.heap.size + 1) (.loop { rec .ready none with state := .busy })).heap[w.heap.size + 1]? = some (.loop { rec .ready none with state := .busy }) := World.putObj_heap_same hlt2
        have hk3 : (W2.putObj (w.heap.size + 1) (.loop { rec .ready none with state := .busy })).heap[w.heap.size]? = some (.deferred (some [])) := (World.putObj_heap_other (by omega)).trans hk2
        refine wpIn_mono (hbody _ k a₁ _ hk ((hAx k a₁).putObj _ hax (by omega) hl2 rfl) (by omega) (Array.getElem?_eq_some_iff.1 hl3).1) ?_
        have fin : ∀ (jump : Option Code) (W3 : World), KeepsFrom w.heap.size (W2.putObj (w.heap.size + 1) (.loop { rec .ready none with state := .busy })) W3 →
            (Instr.endRound (w.heap.size + 1) jump).run Try.prog W3 = .ok (.bool jump.isNone) (W3.putObj (w.heap.size + 1) (.loop (rec (if jump.isNone then .ready else .done) jump))) ∧
            W3.heap[w.heap.size + 1]? = some (.loop { rec .ready none with state := .busy }) ∧
            (W3.putObj (w.heap.size + 1) (.loop (rec (if jump.isNone then .ready else .done) jump))).heap[w.heap.size + 1]? = some (.loop (rec (if jump.isNone then .ready else .done) jump)) ∧
            (W3.putObj (w.heap.size + 1) (.loop (rec (if jump.isNone then .ready else .done) jump))).heap[w.heap.size]? = some (.deferred (some [])) := fun jump W3 hk4 => by
          have hl4 := hk4.same _ _ (by omega) hl3 rfl
          have := run_endRound (P := Try.prog) jump hl4
          rw [hrec] at this ⊢
          exact ⟨this, by rw [hrec] at hl4; exact hl4, World.putObj_heap_same (Array.getElem?_eq_some_iff.1 hl4).1, (World.putObj_heap_other (by omega)).trans (hk4.same _ _ (Nat.le_refl _) hk3 rfl)⟩
        rintro e a3 W3 hp
        cases e with
        | normal =>
          obtain ⟨hk4, hi3⟩ := hp
          obtain ⟨hr, hl4, hl5, hk5⟩ := fin none W3 hk4
          exact ⟨_, _, hr, .inl ⟨rfl, (hI _).putObj _ hi3 (by omega) hl4 rfl, hl5, hk5⟩⟩
        | ret =>
          obtain ⟨hk4, hi3⟩ := hp
          obtain ⟨hr, hl4, hl5, hk5⟩ := fin (some .ret) W3 hk4
          exact ⟨_, _, hr, .inr ⟨rfl, .ret, (hIx _).putObj _ hi3 (by omega) hl4 rfl, hl5, hk5⟩⟩
        | exit id =>
          obtain ⟨hk4, hi3⟩ := hp
          obtain ⟨hr, hl4, hl5, hk5⟩ := fin (some (.exit id)) W3 hk4
          exact ⟨_, _, hr, .inr ⟨rfl, .exit id, (hIx _).putObj _ hi3 (by omega) hl4 rfl, hl5, hk5⟩⟩
        | goto t =>
          obtain ⟨hk4, hi3⟩ := hp
          obtain ⟨hr, hl4, hl5, hk5⟩ := fin (some (.goto t)) W3 hk4
          exact ⟨_, _, hr, .inr ⟨rfl, .goto t, (hIx _).putObj _ hi3 (by omega) hl4 rfl, hl5, hk5⟩⟩
        | panic ch => exact hp.elim
        | outgrown => exact hp.elim
      | ret => exact hp.elim
      | exit id => exact hp.elim
      | goto t => exact hp.elim
      | panic ch => exact hp.elim
      | outgrown => exact hp.elim
    · rintro e W2 ⟨⟨v, rfl⟩, (⟨hi, hl, hkk⟩ | ⟨c, hi, hl, hkk⟩)⟩
      · exact ⟨none, _, by have := run_endLoop (P := Try.prog) hl (by rw [hrec]; simp); rw [hrec] at this; exact this, hdone _ _ ((hI _).putObj _ hi (by omega) hl rfl) (Nat.le_refl _) ((World.putObj_heap_other (by omega)).trans hkk)⟩
      · exact ⟨some c, _, by have := run_endLoop (P := Try.prog) hl (by rw [hrec]; simp); rw [hrec] at this; exact this, wpIn_wide.2 (hstop _ c _ ((hIx c).putObj _ hi (by omega) hl rfl) (Nat.le_refl _) ((World.putObj_heap_other (by omega)).trans hkk))⟩

/-- the frame of a round: the loop's parameters, then the assignments to its variables -/
abbrev roundAct (T : Array Value) (ps : Array Tmp) (sl : List (Tmp × Nat)) (xs : Array Value) : Act :=
  { tmps := sl.foldl (fun t (p, i) => t.setIfInBounds p (xs.getD i undef)) ((ps.zip xs).foldl (fun t (p, v) => t.setIfInBounds p v) T), defers := [] }
theorem wp_rangeS {g : Operand} {ps : Array Tmp} {assign body : Code} {Q : Exit → Act → World → Prop} {a : Act} {w : World} {gf : Nat} {lb : Array Value}
    (hg : a.eval g = .func (.func gf) #[] lb) (eg : Ent gf) {D : World → Prop} {Enc : Nat → World → Array Value → Prop} {N : Nat} (hit : Iter gf lb D Enc N)
    (sl : List (Tmp × Nat)) (I : Nat → World → Prop) (Ix : Code → World → Prop)
    (hI : ∀ k, Stab w.heap.size (I k)) (hIx : ∀ c, Stab w.heap.size (Ix c)) (hE : ∀ k xs, Stab w.heap.size (fun W => Enc k W xs)) (hD : ∀ k W, I k W → D W) (h0 : I 0 w)
    (hps : ∀ k W xs, Enc k W xs → xs.size = ps.size)
    (hassign : ∀ l k xs W (K : Act → World → Prop), Enc k W xs → K (roundAct a.tmps ps sl xs) W → assign.wpIn (Fence.wide.inRound l) 1 Try.prog (Exit.then K (fun _ _ _ => False)) { tmps := (ps.zip xs).foldl (fun t (p, v) => t.setIfInBounds p v) a.tmps, defers := [] } W)
    (hbody : ∀ l k xs W, k < N → I k W → Enc k W xs → w.heap.size < l → l < W.heap.size → body.wpIn (Fence.wide.inRound l) 1 Try.prog (roundOut w.heap.size (I (k + 1)) Ix W) (roundAct a.tmps ps sl xs) W)
    (hdone : ∀ D W, I N W → w.heap.size ≤ D → W.heap[D]? = some (.deferred (some [])) → Q .normal { a with defers := { target := .collected D, args := #[] } :: a.defers } W)
    (hstop : ∀ D c W, Ix c W → w.heap.size ≤ D → W.heap[D]? = some (.deferred (some [])) → c.wp Try.prog Q { a with defers := { target := .collected D, args := #[] } :: a.defers } W) :
    (Code.rangeFunc g ps assign body).wp Try.prog Q a w := by
  refine wp_range hg eg hit I Ix (fun k a₁ W => I k W ∧ ∃ xs, Enc k W xs ∧ a₁ = roundAct a.tmps ps sl xs) hI hIx (fun k a₁ => (hI k).and (Stab.ex fun xs => (hE k xs).and (Stab.pure _))) hD h0
    (fun k W xs _ _ h => hps k W xs h) (fun l k xs W hk hi he _ _ => ?_) (fun l k a₁ W hk hax h1 h2 => ?_) hdone hstop
  · refine wpIn_mono (hassign l k xs W (fun a₁ W' => a₁ = roundAct a.tmps ps sl xs ∧ W' = W) he ⟨rfl, rfl⟩) ?_
    intro e a₁ W' hp
    cases e with
    | normal => obtain ⟨rfl, rfl⟩ := hp; exact ⟨KeepsFrom.refl _ _, hi, xs, he, rfl⟩
    | ret => exact hp.elim
    | exit id => exact hp.elim
    | goto t => exact hp.elim
    | panic ch => exact hp.elim
    | outgrown => exact hp.elim
  · obtain ⟨hi, xs, he, rfl⟩ := hax
    exact hbody l k xs W hk hi he h1 h2
theorem Stab.sl {α : Type} {f : α → List Value} {B size : Nat} (A : Option Addr) (l : List α) : Stab B (fun W => Sl f size W W.heap.size A l) := fun W W' row hs hg hr => by
  have h := Stab.reads (B := B) (b := W.heap.size) (size := size) (n := l.length) A (flat f l) W W' row hs hg hr
  exact Reads.more h hg.size
/-- a world that has only grown keeps every record -/
theorem keepsFrom_below {B : Nat} {W W' : World} (h : Below W.heap.size W W') : KeepsFrom B W W' := ⟨h.size, fun k _o _ hk _ => (h.block k (Array.getElem?_eq_some_iff.1 hk).1).trans hk⟩
theorem fold2 (p q : Tmp) (x y : Value) (T : Array Value) : ((#[p, q] : Array Tmp).zip #[x, y]).foldl (fun t (p, v) => t.setIfInBounds p v) T = (T.setIfInBounds p x).setIfInBounds q y := by simp
theorem fold1 (p : Tmp) (x : Value) (T : Array Value) : ((#[p] : Array Tmp).zip #[x]).foldl (fun t (p, v) => t.setIfInBounds p v) T = T.setIfInBounds p x := by simp
theorem round2 (T : Array Value) (p q r s : Tmp) (x y : Value) : roundAct T #[p, q] [(r, 0), (s, 1)] #[x, y] = { tmps := (((T.setIfInBounds p x).setIfInBounds q y).setIfInBounds r x).setIfInBounds s y, defers := [] } := by simp [roundAct]
theorem round21 (T : Array Value) (p q s : Tmp) (x y : Value) : roundAct T #[p, q] [(s, 1)] #[x, y] = { tmps := ((T.setIfInBounds p x).setIfInBounds q y).setIfInBounds s y, defers := [] } := by simp [roundAct]
/-- a function whose body ranges over functions -/
theorem calls_marks {f : FuncId} {fn : Func} {c : Code} {args : Array Value} {w : World} {R : Ending → World → Prop} (hf : Try.prog.funcs[f]? = some fn) (hb : fn.body = some c)
    (h : c.wp Try.prog (bodyPostM Fence.wide 2 Try.prog fn R) { tmps := args ++ Array.replicate (fn.ntmps - args.size) undef, defers := [] } w) : Calls Try.prog f args w R :=
  callsIn_wide.1 (callsIn_of_wp_marks hf hb trivial (wpIn_wide.2 h))
theorem marks_ret0 {fn : Func} {R : Ending → World → Prop} {a : Act} {w : World} {v : Value} (hd : a.defers = []) (hr : (results fn a.tmps).run Try.prog w = .ok v w) (hR : R (.returned v) w) : bodyPostM Fence.wide 2 Try.prog fn R .ret a w := by
  show LeavesInM _ _ _ _ _ _ a.defers _ _
  rw [hd]; exact ⟨v, hr, hR⟩
theorem marks_ret1 {fn : Func} {R : Ending → World → Prop} {a : Act} {w : World} {v : Value} {D : Nat} (hd : a.defers = [{ target := .collected D, args := #[] }]) (hK : w.heap[D]? = some (.deferred (some [])))
    (hr : (results fn a.tmps).run Try.prog (w.putObj D (.deferred none)) = .ok v (w.putObj D (.deferred none))) (hR : R (.returned v) (w.putObj D (.deferred none))) : bodyPostM Fence.wide 2 Try.prog fn R .ret a w := by
  show LeavesInM _ _ _ _ _ _ a.defers _ _
  rw [hd]; exact ⟨by simp, .inl ⟨_, _, rfl, run_takeDeferred hK, v, hr, hR⟩⟩
theorem Blk.putObj {W : World} {b D : Nat} {cs : Array Value} {t : TypeId} {o o' : Obj} (h : Blk W b cs t) (hD : W.heap[D]? = some o) (ho : o.isCells = false) : Blk (W.putObj D o') b cs t := by
  refine (World.putObj_heap_other fun e => ?_).trans h
  subst e
  unfold Blk at h
  rw [h] at hD; cases hD; cases ho
theorem below_putObj {B D : Nat} {a W : World} {o : Obj} (h : Below B a W) (hD : B ≤ D) (hW : W.heap[D]? = some o) (o' : Obj) : Below B a (W.putObj D o') :=
  h.grown (grownBy_putObj' W D o') (by have := (Array.getElem?_eq_some_iff.1 hW).1; omega) (fun k e => by cases e; exact hD)
/-! Within a round: a region that draws its order, by the plain quiet walk. -/
theorem Oper.wpIn_of_quietR {P : Program} {l n : Nat} {C : World → Prop} {o : Oper} {a : Act} {K : Act → Prop} {K' : Act → World → Prop} {Q' : Exit → Act → World → Prop} {w : World} (hnd : ∀ c, o.op ≠ .defer c)
    (hw : C w) (h : ∀ a w', C w' → K a → K' a w') (hh : o.quiet P a C K) : o.wpIn (Fence.wide.inRound l) n P a w K' Q' := by
  obtain ⟨v, h1, h2⟩ := hh
  have hq := h1 w hw
  unfold Oper.quietAt at hq
  unfold Oper.wpIn
  refine ⟨fun _ _ => trivial, ?_⟩
  rw [Oper.semAt_eq _ _ _ hnd]
  cases hr : (execOp a.eval o).run P w with
  | halt x w' => rw [hr] at hq; exact hq.elim
  | ok x w' =>
    rw [hr] at hq
    cases x <;> first
      | exact hq.elim
      | (obtain ⟨rfl, rfl⟩ := hq; exact h _ _ hw h2)
      | (obtain ⟨rfl, hc⟩ := hq
         refine ⟨(fun hd => by cases hd), CallsIn.inRound l ((callsIn_wide.2 hc).mono ?_)⟩
         rintro e w'' ⟨rfl, hcw⟩
         exact h _ _ hcw h2)
def noDefer (ops : Array Oper) : Bool := ops.all fun o => match o.op with | .defer _ => false | _ => true
theorem noDefer_spec {ops : Array Oper} (h : noDefer ops = true) {i : Nat} {o : Oper} (ho : ops[i]? = some o) : ∀ c, o.op ≠ .defer c := by
  intro c hc
  obtain ⟨hi, rfl⟩ := Array.getElem?_eq_some_iff.1 ho
  have := Array.all_eq_true.1 h i hi
  rw [hc] at this; cases this
theorem wpAnyIn_of_quietR {P : Program} {l n : Nat} {md : Region.Mode} {ops : Array Oper} {C : World → Prop} {Q : Act → Prop} {Q' : Exit → Act → World → Prop} (hnd : noDefer ops = true) (hQ : ∀ a w, C w → Q a → Q' .normal a w) :
    ∀ (fuel : Nat) (listed : Array Bool) (a : Act) (w : World), C w → wpAnyQ P md ops C Q fuel listed a → wpAnyIn (Fence.wide.inRound l) n P md ops Q' fuel listed a w
  | 0, _, a, w, hC, h => ⟨h.1, hQ a w hC h.2⟩
  | fuel + 1, listed, a, w, hC, h => ⟨fun hr => hQ a w hC (h.1 hr), fun i hi => by
      have hq := h.2 i hi
      have ih := wpAnyIn_of_quietR (P := P) (l := l) (n := n) (md := md) hnd hQ fuel (listed.setIfInBounds i true)
      unfold qOp at hq
      unfold wpOpIn
      cases ho : ops[i]? with
      | none => simp only [ho] at hq ⊢; exact ih a w hC hq
      | some o =>
        simp only [ho] at hq ⊢
        split
        · rename_i hw; simp only [hw, if_true] at hq
          exact Oper.wpIn_of_quietR (noDefer_spec hnd ho) hC (fun a' w' hC' hk => ih a' w' hC' hk) hq
        · rename_i hw; simp only [hw] at hq
          exact ⟨fun _ _ => trivial, ih _ w hC hq⟩⟩
theorem wpIn_region_ext {P : Program} {lp n : Nat} {id : Nat} {Q : Exit → Act → World → Prop} {a : Act} {w : World} {l : List Oper} (hm : P.follows .mixedOrders = true) (hB : Region.lexB .any l.toArray = true) (hnd : noDefer l.toArray = true)
    (h : wpQuiet P l.toArray (fun w' => ∃ E, w' = World.ext w E) (fun a' => ∀ w', (∃ E, w' = World.ext w E) → Q .normal a' w') l a) : (Code.region id l.toArray true).wpIn (Fence.wide.inRound lp) n P Q a w := by
  simp only [Region.lexB, Bool.and_eq_true] at hB
  refine wpIn_region_any hm (wpAnyIn_of_quietR (C := fun w' => ∃ E, w' = World.ext w E) (Q := fun a' => ∀ w', (∃ E, w' = World.ext w E) → Q .normal a' w') hnd (fun _ w' hw' h => h w' hw') _ _ _ _ (ext_of ((Below.refl _ w).drew)) ?_)
  have := wpAnyQ_lex (P := P) (C := fun w' => ∃ E, w' = World.ext w E) (md := .any) hB.1 l.toArray.toList 0 (Array.replicate l.toArray.size false) a (by simp) (by simpa using hB.2) (by simpa using h)
  simpa using this
end Go.Proofs.Ytiikkcifdhcejaa

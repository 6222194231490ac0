/- Words for memory: slices that read as lists. -/
import Derived.Test.YtmfbiohdmhbkoaaProg
import Derived.WalkKit
import Derived.WalkSpells
import Derived.WalkLawsBesides
import Derived.Lib.Hide
import Derived.Deep.QuietTactic
import Derived.BigQuiet
import Derived.Deep.AppendLies
import Derived.Deep.Draws
import Derived.Maps.AppendAt
namespace Go.Proofs.Ytmfbiohdmhbkoaa
open Go.RowKit

/-- The slice of n elements of 'size' cells at A holds the cells xs, in blocks below B. -/
def Reads (w : World) (B size : Nat) (A : Option Addr) (n : Nat) (xs : List Value) : Prop :=
  xs.length = n * size ∧ (0 < n → ∃ b o, A = some ⟨b, o, none⟩ ∧ b < B ∧ ∀ j u, xs[j]? = some u → w.cell? ⟨b, o + j, none⟩ = some u)

section
variable {w w' : World} {B B' size n : Nat} {A : Option Addr} {xs : List Value}
theorem Reads.none_ : Reads w B size A 0 [] := ⟨by simp, fun h => absurd h (by omega)⟩
theorem Reads.keep (h : Reads w B size A n xs) (hk : ∀ p : Addr, p.block < B → w'.cell? p = w.cell? p) : Reads w' B size A n xs :=
  ⟨h.1, fun hn => by
    obtain ⟨b, o, e, hb, hc⟩ := h.2 hn
    exact ⟨b, o, e, hb, fun j u hu => (hk _ hb).trans (hc j u hu)⟩⟩
theorem Reads.more (h : Reads w B size A n xs) (hB : B ≤ B') : Reads w B' size A n xs :=
  ⟨h.1, fun hn => by
    obtain ⟨b, o, e, hb, hc⟩ := h.2 hn
    exact ⟨b, o, e, by omega, hc⟩⟩
theorem Reads.below (h : Reads w B size A n xs) (hb : Below B w w') : Reads w' B size A n xs := h.keep fun _ hp => hb.cell hp
theorem Reads.at_ {k : Nat} (h : Reads w B size A n xs) (hk : k < n) : ∃ b o, A = some ⟨b, o, none⟩ ∧ b < B ∧ ∀ j, j < size → ∃ u, xs[k * size + j]? = some u ∧ w.cell? ⟨b, o + k * size + j, none⟩ = some u := by
  obtain ⟨b, o, e, hb, hc⟩ := h.2 (by omega)
  refine ⟨b, o, e, hb, fun j hj => ?_⟩
  have hl : k * size + j < xs.length := by
    rw [h.1]
    calc k * size + j < k * size + size := by omega
      _ = (k + 1) * size := by rw [Nat.add_mul]; omega
      _ ≤ n * size := Nat.mul_le_mul_right _ (by omega)
  exact ⟨xs[k * size + j], List.getElem?_eq_getElem hl, by rw [Nat.add_assoc]; exact hc _ _ (List.getElem?_eq_getElem hl)⟩
end
/-! Regions that draw their order, whose operations read old cells, and whose callees make memory at most: one walk, in the order of the text. -/
structure Grow (w : World) where
  to : World
  h : Below w.heap.size w to
instance Grow.some (w : World) : Nonempty (Grow w) := ⟨⟨w, Below.refl _ _⟩⟩
def World.ext (w : World) (E : Grow w) : World := E.to
theorem World.cell?_ext (w : World) (E : Grow w) (a : Addr) (h : (w.cell? a).isSome = true) : (World.ext w E).cell? a = w.cell? a := by
  cases hc : w.cell? a with
  | none => rw [hc] at h; cases h
  | some v =>
    have hlt := World.block_lt_of_cell? w a hc
    rw [← hc]; exact E.h.cell hlt
theorem World.size_ext (w : World) (E : Grow w) : w.heap.size ≤ (World.ext w E).heap.size := E.h.size
theorem ext_below {w w' : World} (h : ∃ E, w' = World.ext w E) : Below w.heap.size w w' := by obtain ⟨E, rfl⟩ := h; exact E.h
theorem ext_of {w w' : World} (h : Below w.heap.size w w') : ∃ E, w' = World.ext w E := ⟨⟨w', h⟩, rfl⟩
attribute [go_sem] World.cell?_ext
theorem Below.ext {B : Nat} {a w : World} (h : Below B a w) (hB : B ≤ w.heap.size) (E : Grow w) : Below B a (World.ext w E) := h.trans (E.h.mono hB)
theorem wp_region_ext {P : Program} {id : Nat} {Q : Exit → Act → World → Prop} {a : Act} {w : World} {l : List Oper} (hm : P.follows .mixedOrders = true) (hB : Region.lexB .any l.toArray = true)
    (h : wpQuiet P l.toArray (fun w' => ∃ E, w' = World.ext w E) (fun a' => ∀ w', (∃ E, w' = World.ext w E) → Q .normal a' w') l a) : (Code.region id l.toArray true).wp P Q a w :=
  wp_region_quiet (C := fun w' => ∃ E, w' = World.ext w E) hm hB (ext_of ((Below.refl _ w).drew)) (by simpa using h)
theorem Calls.ext_of {P : Program} {f : FuncId} {args : Array Value} {w : World} {E : Grow w} {v : Value}
    (h : Calls P f args (World.ext w E) fun e w' => e = .returned v ∧ Below (World.ext w E).heap.size (World.ext w E) w') : Calls P f args (World.ext w E) fun e w'' => e = .returned v ∧ ∃ E, w'' = World.ext w E :=
  h.mono fun _ _ ⟨he, hb⟩ => ⟨he, Go.Proofs.Ytmfbiohdmhbkoaa.ext_of (E.h.trans (hb.mono (World.size_ext w E)))⟩
theorem Calls.ext_same {P : Program} {f : FuncId} {args : Array Value} {w : World} {E : Grow w} {v : Value}
    (h : Calls P f args (World.ext w E) fun e w' => e = .returned v ∧ World.ext w E = w') : Calls P f args (World.ext w E) fun e w'' => e = .returned v ∧ ∃ E, w'' = World.ext w E :=
  h.mono fun _ _ ⟨he, hb⟩ => ⟨he, E, hb.symm⟩
/-- Function g has a body: a call of its value enters it. -/
def Ent (g : Nat) : Prop := ∀ (args : Array Value) (w : World), (callFunc g args).run Try.prog w = .ok (.enter g args) w
theorem ent_of {g : Nat} {fn : Func} (hf : Try.prog.funcs[g]? = some fn) (hn : (fn.name == "runtime.NumGoroutine") = false) (hb : fn.body.isNone = false) : Ent g := fun args w => by
  have h1 : ¬ fn.name = "runtime.NumGoroutine" := by simpa using hn
  have h2 : ¬ fn.body = none := fun h => by rw [h] at hb; cases hb
  simp [callFunc, hf, h1, h2]
theorem bcell {W w1 : World} {B : Nat} (hb : Below B W w1) : (∀ b o, b < B → w1.cell? ⟨b, o, none⟩ = W.cell? ⟨b, o, none⟩) ∧ (∀ b o, b < B → w1.frozen? ⟨b, o, none⟩ = W.frozen? ⟨b, o, none⟩) :=
  ⟨fun b o h => hb.cell (p := ⟨b, o, none⟩) h, fun b o h => hb.frozen (p := ⟨b, o, none⟩) h⟩
theorem upto_succ {P : Nat → Prop} {k : Nat} (h : Hid (∀ j, j < k → P j)) (hk : P k) : Hid (∀ j, j < k + 1 → P j) := fun j hj => by
  rcases Nat.lt_succ_iff_lt_or_eq.1 hj with h1 | h1
  · exact h.out j h1
  · exact h1 ▸ hk
theorem belowN {B : Nat} {a w : World} (h : Below B a w) (n : Nat) : Below B a (w.drewN n) := ⟨h.os, h.tape, h.output, h.size, h.block⟩
theorem ret_int {k : IntKind} {a b : Int} (h : a = b) : Ending.returned (.int k a) = .returned (.int k b) := by rw [h]
theorem ret_bool {a b : Bool} (h : a = b) : Ending.returned (.bool a) = .returned (.bool b) := by rw [h]

/-- the first index at which p holds, from k on; -1 if there is none -/
def firstFrom {α : Type} (p : α → Bool) : List α → Nat → Int
  | [], _ => -1
  | x :: l, k => if p x then k else firstFrom p l (k + 1)
def firstIdx {α : Type} (p : α → Bool) (l : List α) : Int := firstFrom p l 0
theorem firstFrom_none {α : Type} (p : α → Bool) (l : List α) : ∀ k, (∀ x ∈ l, p x = false) → firstFrom p l k = -1 := by
  induction l with
  | nil => intros; rfl
  | cons x l ih => intro k h; simp only [firstFrom]; rw [if_neg (by simp [h x (by simp)])]; exact ih _ fun y hy => h y (by simp [hy])
theorem firstFrom_at {α : Type} (p : α → Bool) (l : List α) : ∀ k i, (h : i < l.length) → (∀ j, (hj : j < i) → p (l[j]'(by omega)) = false) → p l[i] = true → firstFrom p l k = (k + i : Nat) := by
  induction l with
  | nil => intro k i h; simp at h
  | cons x l ih =>
    intro k i h hn hp
    cases i with
    | zero => simp only [firstFrom]; rw [if_pos (by simpa using hp)]; simp
    | succ i =>
      simp only [firstFrom]
      have h0 := hn 0 (by omega)
      rw [if_neg (by simpa using h0), ih (k + 1) i (by simpa using h) (fun j hj => by simpa using hn (j + 1) (by omega)) (by simpa using hp)]
      congr 1; omega
theorem firstIdx_none {α : Type} (p : α → Bool) (l : List α) (h : ∀ k, (hk : k < l.length) → p l[k] = false) : firstIdx p l = -1 :=
  firstFrom_none p l 0 fun x hx => by obtain ⟨i, hi, rfl⟩ := List.mem_iff_getElem.1 hx; exact h i hi
theorem firstIdx_at {α : Type} (p : α → Bool) (l : List α) (i : Nat) (h : i < l.length) (hn : ∀ j, (hj : j < i) → p (l[j]'(by omega)) = false) (hp : p l[i] = true) : firstIdx p l = (i : Int) := by
  have := firstFrom_at p l 0 i h hn hp; simpa [firstIdx] using this
theorem firstFrom_any {α : Type} (p : α → Bool) (l : List α) : ∀ k : Nat, decide (0 ≤ firstFrom p l k) = l.any p := by
  induction l with
  | nil => intro k; simp [firstFrom]
  | cons x l ih =>
    intro k
    simp only [firstFrom, List.any_cons]
    by_cases h : p x = true
    · simp [h]
    · simp only [Bool.not_eq_true] at h; simp [h, ih]
theorem firstIdx_any {α : Type} (p : α → Bool) (l : List α) : decide (0 ≤ firstIdx p l) = l.any p := firstFrom_any p l 0

/-- cells of a list of n-cell things -/
def flat {α : Type} (f : α → List Value) (l : List α) : List Value := l.flatMap f
theorem flat_length {α : Type} (f : α → List Value) (size : Nat) (hf : ∀ x, (f x).length = size) (l : List α) : (flat f l).length = l.length * size := by
  induction l with
  | nil => simp [flat]
  | cons x l ih => simp only [flat, List.flatMap_cons, List.length_append, hf, List.length_cons] at *; rw [ih, Nat.add_mul]; omega
theorem flat_get {α : Type} (f : α → List Value) (size : Nat) (hf : ∀ x, (f x).length = size) (l : List α) : ∀ (k j : Nat) (hk : k < l.length), j < size → (flat f l)[k * size + j]? = (f l[k])[j]? := by
  induction l with
  | nil => intro k j hk; simp at hk
  | cons x l ih =>
    intro k j hk hj
    simp only [flat, List.flatMap_cons] at *
    cases k with
    | zero => rw [List.getElem?_append_left (by rw [hf]; omega)]; simp
    | succ k =>
      rw [List.getElem?_append_right (by rw [hf, Nat.add_mul]; omega), hf, show (k + 1) * size + j - size = k * size + j by rw [Nat.add_mul]; omega]
      simpa using ih k j (by simpa using hk) hj

/-- A slice of things of 'size' cells each. -/
def Sl {α : Type} (f : α → List Value) (size : Nat) (w : World) (B : Nat) (A : Option Addr) (l : List α) : Prop := Reads w B size A l.length (flat f l)
theorem Sl.below {α : Type} {f : α → List Value} {size : Nat} {w w' : World} {B : Nat} {A : Option Addr} {l : List α} (h : Sl f size w B A l) (hb : Below B w w') : Sl f size w' B A l := Reads.below h hb
theorem Sl.more {α : Type} {f : α → List Value} {size : Nat} {w : World} {B B' : Nat} {A : Option Addr} {l : List α} (h : Sl f size w B A l) (hB : B ≤ B') : Sl f size w B' A l := Reads.more h hB
theorem Sl.at_ {α : Type} {f : α → List Value} {size : Nat} {w : World} {B : Nat} {A : Option Addr} {l : List α} (h : Sl f size w B A l) (hf : ∀ x, (f x).length = size) {k : Nat} (hk : k < l.length) :
    ∃ b o, A = some ⟨b, o, none⟩ ∧ b < B ∧ ∀ j u, (f l[k])[j]? = some u → w.cell? ⟨b, o + k * size + j, none⟩ = some u := by
  obtain ⟨b, o, e, hb, hc⟩ := Reads.at_ h hk
  refine ⟨b, o, e, hb, fun j u hu => ?_⟩
  have hj : j < size := by
    rcases Nat.lt_or_ge j size with h | h
    · exact h
    · rw [List.getElem?_eq_none (by rw [hf]; exact h)] at hu; cases hu
  obtain ⟨v, hv, hcell⟩ := hc j hj
  rw [flat_get f size hf l k j hk hj, hu] at hv
  cases hv
  exact hcell

theorem Sl.of_own {α : Type} {f : α → List Value} {size : Nat} {w : World} {base : Nat} {e : TypeId} {v : Value} {l : List α} (h : w.ownsRow base e size v l.length (flat f l)) :
    ∃ A c, v = .slice A l.length c ∧ Sl f size w w.heap.size A l := by
  rcases h.2 with ⟨rfl, h0⟩ | ⟨g, cap, cur, rfl, hb, hg, hn, hc, hs, ht⟩
  · exact ⟨none, 0, by rw [h0], ⟨h.1, fun hn => by omega⟩⟩
  · refine ⟨_, _, rfl, ⟨h.1, fun hn => ⟨g, 0, rfl, ?_, fun j u hu => ?_⟩⟩⟩
    · rcases Nat.lt_or_ge g w.heap.size with hlt | hge
      · exact hlt
      · rw [Array.getElem?_eq_none hge] at hg; cases hg
    · have := h.cells (g := g) rfl j u hu
      rw [Go.WideShapes.add_plain] at this
      exact this
/-- the call returns a new slice that holds l -/
def RetOwn {α : Type} (e : TypeId) (f : α → List Value) (size : Nat) (l : List α) (w : World) (en : Ending) (w' : World) : Prop :=
  ∃ v, en = .returned v ∧ w'.ownsRow w.heap.size e size v l.length (flat f l) ∧ Below w.heap.size w w'
theorem wp_world {P : Program} {c : Code} {Q : Exit → Act → World → Prop} {a : Act} {w0 : World} (F : World → Prop) (h0 : F w0) (h : ∀ W, F W → c.wp P Q a W) : c.wp P Q a w0 := h w0 h0
/-- block b holds just these cells -/
abbrev Blk (W : World) (b : Nat) (cs : Array Value) (t : TypeId) : Prop := W.heap[b]? = some (.cells cs t (0, 0))
theorem Blk.cell {W : World} {b : Nat} {cs : Array Value} {t : TypeId} (h : Blk W b cs t) (i : Nat) : W.cell? ⟨b, i, none⟩ = cs[i]? := cell_of_row W b i cs t (0, 0) h
theorem Blk.free {W : World} {b : Nat} {cs : Array Value} {t : TypeId} (h : Blk W b cs t) (i : Nat) : W.frozen? ⟨b, i, none⟩ = false := frozen_of_row W b i cs t h
theorem Blk.lt {W : World} {b : Nat} {cs : Array Value} {t : TypeId} (h : Blk W b cs t) : b < W.heap.size := (Array.getElem?_eq_some_iff.1 h).1
theorem Blk.below {W W' : World} {b B : Nat} {cs : Array Value} {t : TypeId} (h : Blk W b cs t) (hb : Below B W W') (hB : b < B) : Blk W' b cs t := (hb.block b hB).trans h
theorem Blk.set {W : World} {b : Nat} {cs : Array Value} {t : TypeId} (h : Blk W b cs t) (i : Nat) (v : Value) : Blk (W.setCell ⟨b, i, none⟩ v) b (cs.setIfInBounds i v) t := heap_setCell_same W b i cs t v h
theorem Blk.far {W : World} {b : Nat} {cs : Array Value} {t : TypeId} (h : Blk W b cs t) (p : Addr) (hp : b ≠ p.block) (v : Value) : Blk (W.setCell p v) b cs t := (Below.heap_setCell W p v b hp).trans h
theorem Blk.new (W : World) (cs : Array Value) (t : TypeId) : Blk (W.alloc (.cells cs t)) W.heap.size cs t := heap_alloc_new W _
theorem Blk.at_ {W : World} {n : Nat} {cs : Array Value} {t : TypeId} (h : n = W.heap.size) : Blk (W.alloc (.cells cs t)) n cs t := h ▸ heap_alloc_new W _
theorem Blk.alloc {W : World} {b : Nat} {cs : Array Value} {t : TypeId} (h : Blk W b cs t) (o : Obj) : Blk (W.alloc o) b cs t := (Below.heap_alloc W o b h.lt).trans h
theorem flat_one {α : Type} (f : α → Value) (l : List α) : flat (fun x => [f x]) l = l.map f := by
  induction l with
  | nil => rfl
  | cons x l ih => simp only [flat, List.flatMap_cons, List.map_cons] at *; rw [ih]; rfl
theorem flat_snoc {α : Type} (f : α → List Value) (l : List α) (x : α) : flat f (l ++ [x]) = flat f l ++ f x := by simp [flat]
end Go.Proofs.Ytmfbiohdmhbkoaa

/- Words for memory: slices that read as lists. -/
import Derived.Test.YtidlmbajpbbilaaProg
import Derived.WalkKit
import Derived.WalkSpells
import Derived.WalkLawsBesides
import Derived.Lib.Hide
import Derived.Deep.QuietTactic
import Derived.BigQuiet
import Derived.Deep.AppendLies
import Derived.Deep.Draws
import Derived.Maps.AppendAt
namespace Go.Proofs.Ytidlmbajpbbilaa
open Go.RowKit

/-- The slice of n elements of 'size' cells at A holds the cells xs, in blocks below B. -/
def Reads (w : World) (B size : Nat) (A : Option Addr) (n : Nat) (xs : List Value) : Prop :=
  xs.length = n * size ∧ (0 < n → ∃ b o, A = some ⟨b, o, none⟩ ∧ b < B ∧ ∀ j u, xs[j]? = some u → w.cell? ⟨b, o + j, none⟩ = some u)

section
variable {w w' : World} {B B' size n : Nat} {A : Option Addr} {xs : List Value}
theorem Reads.none_ : Reads w B size A 0 [] := ⟨by simp, fun h => absurd h (by omega)⟩
theorem Reads.keep (h : Reads w B size A n xs) (hk : ∀ p : Addr, p.block < B → w'.cell? p = w.cell? p) : Reads w' B size A n xs :=
  ⟨h.1, fun hn => by
    obtain ⟨b, o, e, hb, hc⟩ := h.2 hn
    exact ⟨b, o, e, hb, fun j u hu => (hk _ hb).trans (hc j u hu)⟩⟩
theorem Reads.more (h : Reads w B size A n xs) (hB : B ≤ B') : Reads w B' size A n xs :=
  ⟨h.1, fun hn => by
    obtain ⟨b, o, e, hb, hc⟩ := h.2 hn
    exact ⟨b, o, e, by omega, hc⟩⟩
theorem Reads.below (h : Reads w B size A n xs) (hb : Below B w w') : Reads w' B size A n xs := h.keep fun _ hp => hb.cell hp
theorem Reads.at_ {k : Nat} (h : Reads w B size A n xs) (hk : k < n) : ∃ b o, A = some ⟨b, o, none⟩ ∧ b < B ∧ ∀ j, j < size → ∃ u, xs[k * size + j]? = some u ∧ w.cell? ⟨b, o + k * size + j, none⟩ = some u := by
  obtain ⟨b, o, e, hb, hc⟩ := h.2 (by omega)
  refine ⟨b, o, e, hb, fun j hj => ?_⟩
  have hl : k * size + j < xs.length := by
    rw [h.1]
    calc k * size + j < k * size + size := by omega
      _ = (k + 1) * size := by rw [Nat.add_mul]; omega
      _ ≤ n * size := Nat.mul_le_mul_right _ (by omega)
  exact ⟨xs[k * size + j], List.getElem?_eq_getElem hl, by rw [Nat.add_assoc]; exact hc _ _ (List.getElem?_eq_getElem hl)⟩
end
/-! Regions that draw their order, whose operations read old cells, and whose callees make memory at most: one walk, in the order of the text. -/
structure Grow (w : World) where
  to : World
  h : Below w.heap.size w to
instance Grow.some (w : World) : Nonempty (Grow w) := ⟨⟨w, Below.refl _ _⟩⟩
def World.ext (w : World) (E : Grow w) : World := E.to
theorem World.cell?_ext (w : World) (E : Grow w) (a : Addr) (h : (w.cell? a).isSome = true) : (World.ext w E).cell? a = w.cell? a := by
  cases hc : w.cell? a with
  | none => rw [hc] at h; cases h
  | some v =>
    have hlt := World.block_lt_of_cell? w a hc
    rw [← hc]; exact E.h.cell hlt
theorem World.size_ext (w : World) (E : Grow w) : w.heap.size ≤ (World.ext w E).heap.size := E.h.size
theorem ext_below {w w' : World} (h : ∃ E, w' = World.ext w E) : Below w.heap.size w w' := by obtain ⟨E, rfl⟩ := h; exact E.h
theorem ext_of {w w' : World} (h : Below w.heap.size w w') : ∃ E, w' = World.ext w E := ⟨⟨w', h⟩, rfl⟩
attribute [go_sem] World.cell?_ext
theorem Below.ext {B : Nat} {a w : World} (h : Below B a w) (hB : B ≤ w.heap.size) (E : Grow w) : Below B a (World.ext w E) := h.trans (E.h.mono hB)
theorem wp_region_ext {P : Program} {id : Nat} {Q : Exit → Act → World → Prop} {a : Act} {w : World} {l : List Oper} (hm : P.follows .mixedOrders = true) (hB : Region.lexB .any l.toArray = true)
    (h : wpQuiet P l.toArray (fun w' => ∃ E, w' = World.ext w E) (fun a' => ∀ w', (∃ E, w' = World.ext w E) → Q .normal a' w') l a) : (Code.region id l.toArray true).wp P Q a w :=
  wp_region_quiet (C := fun w' => ∃ E, w' = World.ext w E) hm hB (ext_of ((Below.refl _ w).drew)) (by simpa using h)
theorem Calls.ext_of {P : Program} {f : FuncId} {args : Array Value} {w : World} {E : Grow w} {v : Value}
    (h : Calls P f args (World.ext w E) fun e w' => e = .returned v ∧ Below (World.ext w E).heap.size (World.ext w E) w') : Calls P f args (World.ext w E) fun e w'' => e = .returned v ∧ ∃ E, w'' = World.ext w E :=
  h.mono fun _ _ ⟨he, hb⟩ => ⟨he, Go.Proofs.Ytidlmbajpbbilaa.ext_of (E.h.trans (hb.mono (World.size_ext w E)))⟩
theorem Calls.ext_same {P : Program} {f : FuncId} {args : Array Value} {w : World} {E : Grow w} {v : Value}
    (h : Calls P f args (World.ext w E) fun e w' => e = .returned v ∧ World.ext w E = w') : Calls P f args (World.ext w E) fun e w'' => e = .returned v ∧ ∃ E, w'' = World.ext w E :=
  h.mono fun _ _ ⟨he, hb⟩ => ⟨he, E, hb.symm⟩
/-- Function g has a body: a call of its value enters it. -/
def Ent (g : Nat) : Prop := ∀ (args : Array Value) (w : World), (callFunc g args).run Try.prog w = .ok (.enter g args) w
theorem ent_of {g : Nat} {fn : Func} (hf : Try.prog.funcs[g]? = some fn) (hn : (fn.name == "runtime.NumGoroutine") = false) (hb : fn.body.isNone = false) : Ent g := fun args w => by
  have h1 : ¬ fn.name = "runtime.NumGoroutine" := by simpa using hn
  have h2 : ¬ fn.body = none := fun h => by rw [h] at hb; cases hb
  simp [callFunc, hf, h1, h2]
theorem bcell {W w1 : World} {B : Nat} (hb : Below B W w1) : (∀ b o, b < B → w1.cell? ⟨b, o, none⟩ = W.cell? ⟨b, o, none⟩) ∧ (∀ b o, b < B → w1.frozen? ⟨b, o, none⟩ = W.frozen? ⟨b, o, none⟩) :=
  ⟨fun b o h => hb.cell (p := ⟨b, o, none⟩) h, fun b o h => hb.frozen (p := ⟨b, o, none⟩) h⟩
theorem upto_succ {P : Nat → Prop} {k : Nat} (h : Hid (∀ j, j < k → P j)) (hk : P k) : Hid (∀ j, j < k + 1 → P j) := fun j hj => by
  rcases Nat.lt_succ_iff_lt_or_eq.1 hj with h1 | h1
  · exact h.out j h1
  · exact h1 ▸ hk
theorem belowN {B : Nat} {a w : World} (h : Below B a w) (n : Nat) : Below B a (w.drewN n) := ⟨h.os, h.tape, h.output, h.size, h.block⟩
theorem ret_int {k : IntKind} {a b : Int} (h : a = b) : Ending.returned (.int k a) = .returned (.int k b) := by rw [h]
theorem ret_bool {a b : Bool} (h : a = b) : Ending.returned (.bool a) = .returned (.bool b) := by rw [h]

/-- the first index at which p holds, from k on; -1 if there is none -/
def firstFrom {α : Type} (p : α → Bool) : List α → Nat → Int
  | [], _ => -1
  | x :: l, k => if p x then k else firstFrom p l (k + 1)
def firstIdx {α : Type} (p : α → Bool) (l : List α) : Int := firstFrom p l 0
theorem firstFrom_none {α : Type} (p : α → Bool) (l : List α) : ∀ k, (∀ x ∈ l, p x = false) → firstFrom p l k = -1 := by
  induction l with
  | nil => intros; rfl
  | cons x l ih => intro k h; simp only [firstFrom]; rw [if_neg (by simp [h x (by simp)])]; exact ih _ fun y hy => h y (by simp [hy])
theorem firstFrom_at {α : Type} (p : α → Bool) (l : List α) : ∀ k i, (h : i < l.length) → (∀ j, (hj : j < i) → p (l[j]'(by omega)) = false) → p l[i] = true → firstFrom p l k = (k + i : Nat) := by
  induction l with
  | nil => intro k i h; simp at h
  | cons x l ih =>
    intro k i h hn hp
    cases i with
    | zero => simp only [firstFrom]; rw [if_pos (by simpa using hp)]; simp
    | succ i =>
      simp only [firstFrom]
      have h0 := hn 0 (by omega)
      rw [if_neg (by simpa using h0), ih (k + 1) i (by simpa using h) (fun j hj => by simpa using hn (j + 1) (by omega)) (by simpa using hp)]
      congr 1; omega
theorem firstIdx_none {α : Type} (p : α → Bool) (l : List α) (h : ∀ k, (hk : k < l.length) → p l[k] = false) : firstIdx p l = -1 :=
  firstFrom_none p l 0 fun x hx => by obtain ⟨i, hi, rfl⟩ := List.mem_iff_getElem.1 hx; exact h i hi
theorem firstIdx_at {α : Type} (p : α → Bool) (l : List α) (i : Nat) (h : i < l.length) (hn : ∀ j, (hj : j < i) → p (l[j]'(by omega)) = false) (hp : p l[i] = true) : firstIdx p l = (i : Int) := by
  have := firstFrom_at p l 0 i h hn hp; simpa [firstIdx] using this
theorem firstFrom_any {α : Type} (p : α → Bool) (l : List α) : ∀ k : Nat, decide (0 ≤ firstFrom p l k) = l.any p := by
  induction l with
  | nil => intro k; simp [firstFrom]
  | cons x l ih =>
    intro k
    simp only [firstFrom, List.any_cons]
    by_cases h : p x = true
    · simp [h]
    · simp only [Bool.not_eq_true] at h; simp [h, ih]
theorem firstIdx_any {α : Type} (p : α → Bool) (l : List α) : decide (0 ≤ firstIdx p l) = l.any p := firstFrom_any p l 0

/-- cells of a list of n-cell things -/
def flat {α : Type} (f : α → List Value) (l : List α) : List Value := l.flatMap f
theorem flat_length {α : Type} (f : α → List Value) (size : Nat) (hf : ∀ x, (f x).length = size) (l : List α) : (flat f l).length = l.length * size := by
  induction l with
  | nil => simp [flat]
  | cons x l ih => simp only [flat, List.flatMap_cons, List.length_append, hf, List.length_cons] at *; rw [ih, Nat.add_mul]; omega
theorem flat_get {α : Type} (f : α → List Value) (size : Nat) (hf : ∀ x, (f x).length = size) (l : List α) : ∀ (k j : Nat) (hk : k < l.length), j < size → (flat f l)[k * size + j]? = (f l[k])[j]? := by
  induction l with
  | nil => intro k j hk; simp at hk
  | cons x l ih =>
    intro k j hk hj
    simp only [flat, List.flatMap_cons] at *
    cases k with
    | zero => rw [List.getElem?_append_left (by rw [hf]; omega)]; simp
    | succ k =>
      rw [List.getElem?_append_right (by rw [hf, Nat.add_mul]; omega), hf, show (k + 1) * size + j - size = k * size + j by rw [Nat.add_mul]; omega]
      simpa using ih k j (by simpa using hk) hj

/-- A slice of things of 'size' cells each. -/
def Sl {α : Type} (f : α → List Value) (size : Nat) (w : World) (B : Nat) (A : Option Addr) (l : List α) : Prop := Reads w B size A l.length (flat f l)
theorem Sl.below {α : Type} {f : α → List Value} {size : Nat} {w w' : World} {B : Nat} {A : Option Addr} {l : List α} (h : Sl f size w B A l) (hb : Below B w w') : Sl f size w' B A l := Reads.below h hb
theorem Sl.more {α : Type} {f : α → List Value} {size : Nat} {w : World} {B B' : Nat} {A : Option Addr} {l : List α} (h : Sl f size w B A l) (hB : B ≤ B') : Sl f size w B' A l := Reads.more h hB
theorem Sl.at_ {α : Type} {f : α → List Value} {size : Nat} {w : World} {B : Nat} {A : Option Addr} {l : List α} (h : Sl f size w B A l) (hf : ∀ x, (f x).length = size) {k : Nat} (hk : k < l.length) :
    ∃ b o, A = some ⟨b, o, none⟩ ∧ b < B ∧ ∀ j u, (f l[k])[j]? = some u → w.cell? ⟨b, o + k * size + j, none⟩ = some u := by
  obtain ⟨b, o, e, hb, hc⟩ := Reads.at_ h hk
  refine ⟨b, o, e, hb, fun j u hu => ?_⟩
  have hj : j < size := by
    rcases Nat.lt_or_ge j size with h | h
    · exact h
    · rw [List.getElem?_eq_none (by rw [hf]; exact h)] at hu; cases hu
  obtain ⟨v, hv, hcell⟩ := hc j hj
  rw [flat_get f size hf l k j hk hj, hu] at hv
  cases hv
  exact hcell

theorem Sl.of_own {α : Type} {f : α → List Value} {size : Nat} {w : World} {base : Nat} {e : TypeId} {v : Value} {l : List α} (h : w.ownsRow base e size v l.length (flat f l)) :
    ∃ A c, v = .slice A l.length c ∧ Sl f size w w.heap.size A l := by
  rcases h.2 with ⟨rfl, h0⟩ | ⟨g, cap, cur, rfl, hb, hg, hn, hc, hs, ht⟩
  · exact ⟨none, 0, by rw [h0], ⟨h.1, fun hn => by omega⟩⟩
  · refine ⟨_, _, rfl, ⟨h.1, fun hn => ⟨g, 0, rfl, ?_, fun j u hu => ?_⟩⟩⟩
    · rcases Nat.lt_or_ge g w.heap.size with hlt | hge
      · exact hlt
      · rw [Array.getElem?_eq_none hge] at hg; cases hg
    · have := h.cells (g := g) rfl j u hu
      rw [Go.WideShapes.add_plain] at this
      exact this
/-- the call returns a new slice that holds l -/
def RetOwn {α : Type} (e : TypeId) (f : α → List Value) (size : Nat) (l : List α) (w : World) (en : Ending) (w' : World) : Prop :=
  ∃ v, en = .returned v ∧ w'.ownsRow w.heap.size e size v l.length (flat f l) ∧ Below w.heap.size w w'
theorem wp_world {P : Program} {c : Code} {Q : Exit → Act → World → Prop} {a : Act} {w0 : World} (F : World → Prop) (h0 : F w0) (h : ∀ W, F W → c.wp P Q a W) : c.wp P Q a w0 := h w0 h0
/-- block b holds just these cells -/
abbrev Blk (W : World) (b : Nat) (cs : Array Value) (t : TypeId) : Prop := W.heap[b]? = some (.cells cs t (0, 0))
theorem Blk.cell {W : World} {b : Nat} {cs : Array Value} {t : TypeId} (h : Blk W b cs t) (i : Nat) : W.cell? ⟨b, i, none⟩ = cs[i]? := cell_of_row W b i cs t (0, 0) h
theorem Blk.free {W : World} {b : Nat} {cs : Array Value} {t : TypeId} (h : Blk W b cs t) (i : Nat) : W.frozen? ⟨b, i, none⟩ = false := frozen_of_row W b i cs t h
theorem Blk.lt {W : World} {b : Nat} {cs : Array Value} {t : TypeId} (h : Blk W b cs t) : b < W.heap.size := (Array.getElem?_eq_some_iff.1 h).1
theorem Blk.below {W W' : World} {b B : Nat} {cs : Array Value} {t : TypeId} (h : Blk W b cs t) (hb : Below B W W') (hB : b < B) : Blk W' b cs t := (hb.block b hB).trans h
theorem Blk.set {W : World} {b : Nat} {cs : Array Value} {t : TypeId} (h : Blk W b cs t) (i : Nat) (v : Value) : Blk (W.setCell ⟨b, i, none⟩ v) b (cs.setIfInBounds i v) t := heap_setCell_same W b i cs t v h
theorem Blk.far {W : World} {b : Nat} {cs : Array Value} {t : TypeId} (h : Blk W b cs t) (p : Addr) (hp : b ≠ p.block) (v : Value) : Blk (W.setCell p v) b cs t := (Below.heap_setCell W p v b hp).trans h
theorem Blk.new (W : World) (cs : Array Value) (t : TypeId) : Blk (W.alloc (.cells cs t)) W.heap.size cs t := heap_alloc_new W _
theorem Blk.at_ {W : World} {n : Nat} {cs : Array Value} {t : TypeId} (h : n = W.heap.size) : Blk (W.alloc (.cells cs t)) n cs t := h ▸ heap_alloc_new W _
theorem Blk.alloc {W : World} {b : Nat} {cs : Array Value} {t : TypeId} (h : Blk W b cs t) (o : Obj) : Blk (W.alloc o) b cs t := (Below.heap_alloc W o b h.lt).trans h
theorem flat_one {α : Type} (f : α → Value) (l : List α) : flat (fun x => [f x]) l = l.map f := by
  induction l with
  | nil => rfl
  | cons x l ih => simp only [flat, List.flatMap_cons, List.map_cons] at *; rw [ih]; rfl
theorem flat_snoc {α : Type} (f : α → List Value) (l : List α) (x : α) : flat f (l ++ [x]) = flat f l ++ f x := by simp [flat]
end Go.Proofs.Ytidlmbajpbbilaa
namespace Go.Proofs.Ytidlmbajpbbilaa
open Go.RowKit

def inB (n a b : Int) : Bool := decide (a ≤ n ∧ n ≤ b)
theorem within_any (n a b : Int) (w : World) : Calls Try.prog 67 #[.int .i64 n, .int .i64 a, .int .i64 b] w fun e w' => e = .returned (.bool (inB n a b)) ∧ w = w' := by
  by_cases h1 : a ≤ n
  · go_enter Try.func67, Try.ntmps67
    go_wp2
    go_ret
    exact ⟨by simp [inB, h1], rfl⟩
  · go_enter Try.func67, Try.ntmps67
    go_wp2
    go_ret
    exact ⟨by simp [inB]; omega, rfl⟩

theorem within_val {n a b : Int} {v : Bool} (h : inB n a b = v) (w : World) : Calls Try.prog 67 #[.int .i64 n, .int .i64 a, .int .i64 b] w fun e w' => e = .returned (.bool v) ∧ w = w' := h ▸ within_any n a b w
/-- how many charts: p places of s signs; 4097: too many -/
def chartsN (s : Int) : Nat → Int
  | 0 => 1
  | n + 1 => min (chartsN s n * s) 4097
theorem chartsN_bd (s : Int) (h1 : 1 ≤ s) (n : Nat) : 1 ≤ chartsN s n ∧ chartsN s n ≤ 4097 := by
  induction n with
  | zero => simp [chartsN]
  | succ n ih =>
    simp only [chartsN]
    have : 1 * 1 ≤ chartsN s n * s := Int.mul_le_mul ih.1 h1 (by omega) (by omega)
    omega

structure Tst where
  kind : Int
  place : Int
  other : Int
  set : Int
def Tst.cells (t : Tst) : List Value := [.int .i64 t.kind, .int .i64 t.place, .int .i64 t.other, .int .u64 t.set]
def Tst.ok (t : Tst) : Prop := (Value.int .i64 t.kind).oneCell' = true ∧ (0 ≤ t.set ∧ t.set < 18446744073709551616)
/-- a rule, with the addresses and capacities of its lists -/
structure Rul where
  wa : Option Addr
  wc : Nat
  when_ : List Tst
  kinds : Int
  rank : Int
  ua : Option Addr
  uc : Nat
  unless_ : List Int
  says : Int
structure Sch where
  places : Int
  signs : Int
  kinds : Int
  answers : Int
  ra : Option Addr
  rc : Nat
  rules : List Rul
abbrev Sch.rv (s : Sch) : Value := .slice s.ra s.rules.length s.rc
abbrev scv (s : Sch) (R : Value) : Value := .agg #[.int .i64 s.places, .int .i64 s.signs, .int .i64 s.kinds, .int .i64 s.answers, R]
abbrev Rul.cells (r : Rul) : List Value := [.slice r.wa r.when_.length r.wc, .int .i64 r.kinds, .int .i64 r.rank, .slice r.ua r.unless_.length r.uc, .int .i64 r.says]
abbrev rlv (r : Rul) : Value := .agg #[.slice r.wa r.when_.length r.wc, .int .i64 r.kinds, .int .i64 r.rank, .slice r.ua r.unless_.length r.uc, .int .i64 r.says]
def Rul.reads (w : World) (B : Nat) (r : Rul) : Prop := Sl Tst.cells 4 w B r.wa r.when_ ∧ Sl (fun x => [Value.int .i64 x]) 1 w B r.ua r.unless_ ∧ r.when_.length ≤ 1000000 ∧ r.unless_.length ≤ 1000000 ∧ (∀ t ∈ r.when_, t.ok)
def Sch.reads (w : World) (B : Nat) (s : Sch) : Prop := Sl Rul.cells 5 w B s.ra s.rules ∧ s.rules.length ≤ 1000000 ∧ ∀ r ∈ s.rules, r.reads w B
theorem Rul.reads.below {w w' : World} {B : Nat} {r : Rul} (h : r.reads w B) (hb : Below B w w') : r.reads w' B := ⟨h.1.below hb, h.2.1.below hb, h.2.2⟩
theorem Rul.reads.more {w : World} {B B' : Nat} {r : Rul} (h : r.reads w B) (hb : B ≤ B') : r.reads w B' := ⟨h.1.more hb, h.2.1.more hb, h.2.2⟩
theorem Sch.reads.below {w w' : World} {B : Nat} {s : Sch} (h : s.reads w B) (hb : Below B w w') : s.reads w' B := ⟨h.1.below hb, h.2.1, fun r hr => (h.2.2 r hr).below hb⟩
theorem Sch.reads.more {w : World} {B B' : Nat} {s : Sch} (h : s.reads w B) (hb : B ≤ B') : s.reads w B' := ⟨h.1.more hb, h.2.1, fun r hr => (h.2.2 r hr).more hb⟩

theorem charts_any (s : Sch) (R : Value) (hp : 1 ≤ s.places) (hp' : s.places ≤ 6) (hs : 1 ≤ s.signs) (hs' : s.signs ≤ 64) (w : World) :
    Calls Try.prog 72 #[scv s R] w fun e w' => e = .returned (.int .i64 (chartsN s.signs s.places.toNat)) ∧ Below w.heap.size w w' := by
  obtain ⟨p, s, k, a, ra, rc, rs⟩ := s
  simp only at *
  obtain ⟨p, rfl⟩ := Int.eq_ofNat_of_zero_le (a := p) (by omega)
  go_enter Try.func72, Try.ntmps72
  go_wp2
  go_loop [3, 6] (fun n i => ∃ j : Nat, j ≤ p ∧ i = .int .i64 j ∧ n = .int .i64 (chartsN s j)) (fun _ i => p - (intOf i).toNat)
  case atStart => exact ⟨0, by omega, rfl, rfl⟩
  case round =>
    obtain ⟨j, hj, rfl, rfl⟩ := hrel
    have hb := chartsN_bd s hs j
    have hm1 : 0 ≤ chartsN s j * s := Int.mul_nonneg (by omega) (by omega)
    have hm2 : chartsN s j * s ≤ 4097 * 64 := Int.mul_le_mul hb.2 hs' (by omega) (by omega)
    by_cases hlt : j < p
    · go_wp2
      all_goals
        go_round
        case rel => exact ⟨j + 1, by omega, by go_num, by simp only [chartsN, Value.int.injEq, true_and]; split <;> omega⟩
        case measure => simp [intOf]; omega
    · go_wp2
      go_ret
      have : j = p := by omega
      subst this
      exact ⟨by simp, (Below.refl _ _).alloc (Nat.le_refl _) _⟩

def fitsB (signs x : Int) : Bool := decide (x / 2 ^ signs.toNat = 0)
theorem fits_any (s : Sch) (x : Int) (R : Value) (hs : 1 ≤ s.signs) (hs' : s.signs ≤ 64) (hx : 0 ≤ x) (hx' : x < 18446744073709551616) (w : World) :
    Calls Try.prog 84 #[scv s R, .int .u64 x] w fun e w' => e = .returned (.bool (fitsB s.signs x)) ∧ Below w.heap.size w w' := by
  obtain ⟨p, s, k, a, ra, rc, rs⟩ := s
  simp only [fitsB] at *
  by_cases h : s = 64
  · subst h
    have hz : x / 18446744073709551616 = 0 := Int.ediv_eq_zero_of_lt hx hx'
    go_enter Try.func84, Try.ntmps84
    go_wp2
    go_ret
    exact ⟨by simp [hz], (Below.refl _ _).alloc (Nat.le_refl _) _⟩
  · have hb : ((s : Int) == 64) = false := by simpa using h
    go_enter Try.func84, Try.ntmps84
    go_wp2
    go_ret
    exact ⟨ret_bool rfl, (Below.refl _ _).alloc (Nat.le_refl _) _⟩
def tstB (s : Sch) (t : Tst) : Bool :=
  inB t.place 0 (s.places - 1) && ((t.kind == 1 && t.other == 0 && fitsB s.signs t.set) || ((t.kind == 2 || t.kind == 3) && inB t.other 0 (s.places - 1) && t.other != t.place && t.set == 0))
theorem isTest_any (s : Sch) (t : Tst) (R : Value) (ht : t.ok) (hp : 1 ≤ s.places) (hp' : s.places ≤ 6) (hs : 1 ≤ s.signs) (hs' : s.signs ≤ 64) (w : World) :
    Calls Try.prog 91 #[scv s R, .agg #[.int .i64 t.kind, .int .i64 t.place, .int .i64 t.other, .int .u64 t.set]] w fun e w' => e = .returned (.bool (tstB s t)) ∧ Below w.heap.size w w' := by
  obtain ⟨p, s, k, a, ra, rc, rs⟩ := s
  obtain ⟨tk, tp, to, ts⟩ := t
  have hu := ht.2; clear ht
  simp only [tstB] at *
  have BAD : ((0 : Int) == 0) = true := rfl
  by_cases d1 : inB tp 0 (p - 1) = true
  · by_cases k1 : (tk == 1) = true
    · by_cases o1 : (to == 0) = true
      · (go_enter Try.func91, Try.ntmps91; go_wp2_with (first | (go_at_call 67; refine (within_any _ _ _ _).mono ?_; rintro e w' ⟨rfl, rfl⟩) | (go_at_call 84; refine (fits_any ⟨p, s, k, a, ra, rc, rs⟩ ts R hs hs' hu.1 hu.2 _).mono ?_; rintro e w' ⟨rfl, hb⟩)); go_ret)
        exact ⟨ret_bool (by simp only [beq_iff_eq] at k1; simp [d1, k1, o1]), by (repeat (first | exact Below.refl _ _ | assumption | (refine Below.alloc ?_ (by first | omega | (simp; omega) | (simp; done)) _) | (refine Below.setCell ?_ (by first | omega | (simp; omega) | (simp; done)) _) | (refine Below.drew ?_) | (refine belowN ?_ _) | (refine Below.trans ?_ (Below.mono ‹Below _ _ _› (by first | omega | (simp; omega) | (simp; done))))))⟩
      · simp only [Bool.not_eq_true] at o1
        (go_enter Try.func91, Try.ntmps91; go_wp2_with (first | (go_at_call 67; refine (within_any _ _ _ _).mono ?_; rintro e w' ⟨rfl, rfl⟩) | (go_at_call 84; refine (fits_any ⟨p, s, k, a, ra, rc, rs⟩ ts R hs hs' hu.1 hu.2 _).mono ?_; rintro e w' ⟨rfl, hb⟩)); go_ret)
        exact ⟨ret_bool (by simp only [beq_iff_eq] at k1; simp [k1, o1]), by (repeat (first | exact Below.refl _ _ | assumption | (refine Below.alloc ?_ (by first | omega | (simp; omega) | (simp; done)) _) | (refine Below.setCell ?_ (by first | omega | (simp; omega) | (simp; done)) _) | (refine Below.drew ?_) | (refine belowN ?_ _) | (refine Below.trans ?_ (Below.mono ‹Below _ _ _› (by first | omega | (simp; omega) | (simp; done))))))⟩
    · simp only [Bool.not_eq_true] at k1
      by_cases k2 : (tk == 2 || tk == 3) = true
      · by_cases d2 : inB to 0 (p - 1) = true
        · by_cases d3 : (to != tp) = true
          · rcases Bool.or_eq_true_iff.1 k2 with k3 | k3
            · (go_enter Try.func91, Try.ntmps91; go_wp2_with (first | (go_at_call 67; refine (within_any _ _ _ _).mono ?_; rintro e w' ⟨rfl, rfl⟩) | (go_at_call 84; refine (fits_any ⟨p, s, k, a, ra, rc, rs⟩ ts R hs hs' hu.1 hu.2 _).mono ?_; rintro e w' ⟨rfl, hb⟩)); go_ret)
              exact ⟨ret_bool (by simp [d1, k1, k3, d2, d3]), by (repeat (first | exact Below.refl _ _ | assumption | (refine Below.alloc ?_ (by first | omega | (simp; omega) | (simp; done)) _) | (refine Below.setCell ?_ (by first | omega | (simp; omega) | (simp; done)) _) | (refine Below.drew ?_) | (refine belowN ?_ _) | (refine Below.trans ?_ (Below.mono ‹Below _ _ _› (by first | omega | (simp; omega) | (simp; done))))))⟩
            · have k4 : (tk == 2) = false := by simp at *; omega
              (go_enter Try.func91, Try.ntmps91; go_wp2_with (first | (go_at_call 67; refine (within_any _ _ _ _).mono ?_; rintro e w' ⟨rfl, rfl⟩) | (go_at_call 84; refine (fits_any ⟨p, s, k, a, ra, rc, rs⟩ ts R hs hs' hu.1 hu.2 _).mono ?_; rintro e w' ⟨rfl, hb⟩)); go_ret)
              exact ⟨ret_bool (by simp [d1, k1, k3, k4, d2, d3]), by (repeat (first | exact Below.refl _ _ | assumption | (refine Below.alloc ?_ (by first | omega | (simp; omega) | (simp; done)) _) | (refine Below.setCell ?_ (by first | omega | (simp; omega) | (simp; done)) _) | (refine Below.drew ?_) | (refine belowN ?_ _) | (refine Below.trans ?_ (Below.mono ‹Below _ _ _› (by first | omega | (simp; omega) | (simp; done))))))⟩
          · simp only [Bool.not_eq_true] at d3
            rcases Bool.or_eq_true_iff.1 k2 with k3 | k3
            · (go_enter Try.func91, Try.ntmps91; go_wp2_with (first | (go_at_call 67; refine (within_any _ _ _ _).mono ?_; rintro e w' ⟨rfl, rfl⟩) | (go_at_call 84; refine (fits_any ⟨p, s, k, a, ra, rc, rs⟩ ts R hs hs' hu.1 hu.2 _).mono ?_; rintro e w' ⟨rfl, hb⟩)); go_ret)
              exact ⟨ret_bool (by simp [d3, k1]), by (repeat (first | exact Below.refl _ _ | assumption | (refine Below.alloc ?_ (by first | omega | (simp; omega) | (simp; done)) _) | (refine Below.setCell ?_ (by first | omega | (simp; omega) | (simp; done)) _) | (refine Below.drew ?_) | (refine belowN ?_ _) | (refine Below.trans ?_ (Below.mono ‹Below _ _ _› (by first | omega | (simp; omega) | (simp; done))))))⟩
            · have k4 : (tk == 2) = false := by simp at *; omega
              (go_enter Try.func91, Try.ntmps91; go_wp2_with (first | (go_at_call 67; refine (within_any _ _ _ _).mono ?_; rintro e w' ⟨rfl, rfl⟩) | (go_at_call 84; refine (fits_any ⟨p, s, k, a, ra, rc, rs⟩ ts R hs hs' hu.1 hu.2 _).mono ?_; rintro e w' ⟨rfl, hb⟩)); go_ret)
              exact ⟨ret_bool (by simp [d3, k1]), by (repeat (first | exact Below.refl _ _ | assumption | (refine Below.alloc ?_ (by first | omega | (simp; omega) | (simp; done)) _) | (refine Below.setCell ?_ (by first | omega | (simp; omega) | (simp; done)) _) | (refine Below.drew ?_) | (refine belowN ?_ _) | (refine Below.trans ?_ (Below.mono ‹Below _ _ _› (by first | omega | (simp; omega) | (simp; done))))))⟩
        · simp only [Bool.not_eq_true] at d2
          rcases Bool.or_eq_true_iff.1 k2 with k3 | k3
          · (go_enter Try.func91, Try.ntmps91; go_wp2_with (first | (go_at_call 67; refine (within_any _ _ _ _).mono ?_; rintro e w' ⟨rfl, rfl⟩) | (go_at_call 84; refine (fits_any ⟨p, s, k, a, ra, rc, rs⟩ ts R hs hs' hu.1 hu.2 _).mono ?_; rintro e w' ⟨rfl, hb⟩)); go_ret)
            exact ⟨ret_bool (by simp [d2, k1]), by (repeat (first | exact Below.refl _ _ | assumption | (refine Below.alloc ?_ (by first | omega | (simp; omega) | (simp; done)) _) | (refine Below.setCell ?_ (by first | omega | (simp; omega) | (simp; done)) _) | (refine Below.drew ?_) | (refine belowN ?_ _) | (refine Below.trans ?_ (Below.mono ‹Below _ _ _› (by first | omega | (simp; omega) | (simp; done))))))⟩
          · have k4 : (tk == 2) = false := by simp at *; omega
            (go_enter Try.func91, Try.ntmps91; go_wp2_with (first | (go_at_call 67; refine (within_any _ _ _ _).mono ?_; rintro e w' ⟨rfl, rfl⟩) | (go_at_call 84; refine (fits_any ⟨p, s, k, a, ra, rc, rs⟩ ts R hs hs' hu.1 hu.2 _).mono ?_; rintro e w' ⟨rfl, hb⟩)); go_ret)
            exact ⟨ret_bool (by simp [d2, k1]), by (repeat (first | exact Below.refl _ _ | assumption | (refine Below.alloc ?_ (by first | omega | (simp; omega) | (simp; done)) _) | (refine Below.setCell ?_ (by first | omega | (simp; omega) | (simp; done)) _) | (refine Below.drew ?_) | (refine belowN ?_ _) | (refine Below.trans ?_ (Below.mono ‹Below _ _ _› (by first | omega | (simp; omega) | (simp; done))))))⟩
      · simp only [Bool.not_eq_true] at k2
        obtain ⟨k3, k4⟩ := Bool.or_eq_false_iff.1 k2
        (go_enter Try.func91, Try.ntmps91; go_wp2_with (first | (go_at_call 67; refine (within_any _ _ _ _).mono ?_; rintro e w' ⟨rfl, rfl⟩) | (go_at_call 84; refine (fits_any ⟨p, s, k, a, ra, rc, rs⟩ ts R hs hs' hu.1 hu.2 _).mono ?_; rintro e w' ⟨rfl, hb⟩)); go_ret)
        exact ⟨ret_bool (by simp [k1, k2]), by (repeat (first | exact Below.refl _ _ | assumption | (refine Below.alloc ?_ (by first | omega | (simp; omega) | (simp; done)) _) | (refine Below.setCell ?_ (by first | omega | (simp; omega) | (simp; done)) _) | (refine Below.drew ?_) | (refine belowN ?_ _) | (refine Below.trans ?_ (Below.mono ‹Below _ _ _› (by first | omega | (simp; omega) | (simp; done))))))⟩
  · simp only [Bool.not_eq_true] at d1
    (go_enter Try.func91, Try.ntmps91; go_wp2_with (first | (go_at_call 67; refine (within_any _ _ _ _).mono ?_; rintro e w' ⟨rfl, rfl⟩) | (go_at_call 84; refine (fits_any ⟨p, s, k, a, ra, rc, rs⟩ ts R hs hs' hu.1 hu.2 _).mono ?_; rintro e w' ⟨rfl, hb⟩)); go_ret)
    exact ⟨ret_bool (by simp [d1]), by (repeat (first | exact Below.refl _ _ | assumption | (refine Below.alloc ?_ (by first | omega | (simp; omega) | (simp; done)) _) | (refine Below.setCell ?_ (by first | omega | (simp; omega) | (simp; done)) _) | (refine Below.drew ?_) | (refine belowN ?_ _) | (refine Below.trans ?_ (Below.mono ‹Below _ _ _› (by first | omega | (simp; omega) | (simp; done))))))⟩
end Go.Proofs.Ytidlmbajpbbilaa

/- Words for memory: slices that read as lists. -/
import Derived.Test.YtfbnllmmoaialaaGreatProg
import Derived.WalkKit
import Derived.WalkSpells
import Derived.WalkLawsBesides
import Derived.Lib.Hide
import Derived.Deep.QuietTactic
import Derived.BigQuiet
import Derived.Deep.AppendLies
import Derived.Deep.Draws
import Derived.Maps.AppendAt
namespace Go.Proofs.YtfbnllmmoaialaaGreat
open Go.RowKit

/-- The slice of n elements of 'size' cells at A holds the cells xs, in blocks below B. -/
def Reads (w : World) (B size : Nat) (A : Option Addr) (n : Nat) (xs : List Value) : Prop :=
  xs.length = n * size ∧ (0 < n → ∃ b o, A = some ⟨b, o, none⟩ ∧ b < B ∧ ∀ j u, xs[j]? = some u → w.cell? ⟨b, o + j, none⟩ = some u)

section
variable {w w' : World} {B B' size n : Nat} {A : Option Addr} {xs : List Value}
theorem Reads.none_ : Reads w B size A 0 [] := ⟨by simp, fun h => absurd h (by omega)⟩
theorem Reads.keep (h : Reads w B size A n xs) (hk : ∀ p : Addr, p.block < B → w'.cell? p = w.cell? p) : Reads w' B size A n xs :=
  ⟨h.1, fun hn => by
    obtain ⟨b, o, e, hb, hc⟩ := h.2 hn
    exact ⟨b, o, e, hb, fun j u hu => (hk _ hb).trans (hc j u hu)⟩⟩
theorem Reads.more (h : Reads w B size A n xs) (hB : B ≤ B') : Reads w B' size A n xs :=
  ⟨h.1, fun hn => by
    obtain ⟨b, o, e, hb, hc⟩ := h.2 hn
    exact ⟨b, o, e, by omega, hc⟩⟩
theorem Reads.below (h : Reads w B size A n xs) (hb : Below B w w') : Reads w' B size A n xs := h.keep fun _ hp => hb.cell hp
theorem Reads.at_ {k : Nat} (h : Reads w B size A n xs) (hk : k < n) : ∃ b o, A = some ⟨b, o, none⟩ ∧ b < B ∧ ∀ j, j < size → ∃ u, xs[k * size + j]? = some u ∧ w.cell? ⟨b, o + k * size + j, none⟩ = some u := by
  obtain ⟨b, o, e, hb, hc⟩ := h.2 (by omega)
  refine ⟨b, o, e, hb, fun j hj => ?_⟩
  have hl : k * size + j < xs.length := by
    rw [h.1]
    calc k * size + j < k * size + size := by omega
      _ = (k + 1) * size := by rw [Nat.add_mul]; omega
      _ ≤ n * size := Nat.mul_le_mul_right _ (by omega)
  exact ⟨xs[k * size + j], List.getElem?_eq_getElem hl, by rw [Nat.add_assoc]; exact hc _ _ (List.getElem?_eq_getElem hl)⟩
end
/-! Regions that draw their order, whose operations read old cells, and whose callees make memory at most: one walk, in the order of the text. -/
structure Grow (w : World) where
  to : World
  h : Below w.heap.size w to
instance Grow.some (w : World) : Nonempty (Grow w) := ⟨⟨w, Below.refl _ _⟩⟩
def World.ext (w : World) (E : Grow w) : World := E.to
theorem World.cell?_ext (w : World) (E : Grow w) (a : Addr) (h : (w.cell? a).isSome = true) : (World.ext w E).cell? a = w.cell? a := by
  cases hc : w.cell? a with
  | none => rw [hc] at h; cases h
  | some v =>
    have hlt := World.block_lt_of_cell? w a hc
    rw [← hc]; exact E.h.cell hlt
theorem World.size_ext (w : World) (E : Grow w) : w.heap.size ≤ (World.ext w E).heap.size := E.h.size
theorem ext_below {w w' : World} (h : ∃ E, w' = World.ext w E) : Below w.heap.size w w' := by obtain ⟨E, rfl⟩ := h; exact E.h
theorem ext_of {w w' : World} (h : Below w.heap.size w w') : ∃ E, w' = World.ext w E := ⟨⟨w', h⟩, rfl⟩
attribute [go_sem] World.cell?_ext
theorem Below.ext {B : Nat} {a w : World} (h : Below B a w) (hB : B ≤ w.heap.size) (E : Grow w) : Below B a (World.ext w E) := h.trans (E.h.mono hB)
theorem wp_region_ext {P : Program} {id : Nat} {Q : Exit → Act → World → Prop} {a : Act} {w : World} {l : List Oper} (hm : P.follows .mixedOrders = true) (hB : Region.lexB .any l.toArray = true)
    (h : wpQuiet P l.toArray (fun w' => ∃ E, w' = World.ext w E) (fun a' => ∀ w', (∃ E, w' = World.ext w E) → Q .normal a' w') l a) : (Code.region id l.toArray true).wp P Q a w :=
  wp_region_quiet (C := fun w' => ∃ E, w' = World.ext w E) hm hB (ext_of ((Below.refl _ w).drew)) (by simpa using h)
theorem Calls.ext_of {P : Program} {f : FuncId} {args : Array Value} {w : World} {E : Grow w} {v : Value}
    (h : Calls P f args (World.ext w E) fun e w' => e = .returned v ∧ Below (World.ext w E).heap.size (World.ext w E) w') : Calls P f args (World.ext w E) fun e w'' => e = .returned v ∧ ∃ E, w'' = World.ext w E :=
  h.mono fun _ _ ⟨he, hb⟩ => ⟨he, Go.Proofs.YtfbnllmmoaialaaGreat.ext_of (E.h.trans (hb.mono (World.size_ext w E)))⟩
theorem Calls.ext_same {P : Program} {f : FuncId} {args : Array Value} {w : World} {E : Grow w} {v : Value}
    (h : Calls P f args (World.ext w E) fun e w' => e = .returned v ∧ World.ext w E = w') : Calls P f args (World.ext w E) fun e w'' => e = .returned v ∧ ∃ E, w'' = World.ext w E :=
  h.mono fun _ _ ⟨he, hb⟩ => ⟨he, E, hb.symm⟩
/-- Function g has a body: a call of its value enters it. -/
def Ent (g : Nat) : Prop := ∀ (args : Array Value) (w : World), (callFunc g args).run Tryz.prog w = .ok (.enter g args) w
theorem ent_of {g : Nat} {fn : Func} (hf : Tryz.prog.funcs[g]? = some fn) (hn : (fn.name == "runtime.NumGoroutine") = false) (hb : fn.body.isNone = false) : Ent g := fun args w => by
  have h1 : ¬ fn.name = "runtime.NumGoroutine" := by simpa using hn
  have h2 : ¬ fn.body = none := fun h => by rw [h] at hb; cases hb
  simp [callFunc, hf, h1, h2]
theorem bcell {W w1 : World} {B : Nat} (hb : Below B W w1) : (∀ b o, b < B → w1.cell? ⟨b, o, none⟩ = W.cell? ⟨b, o, none⟩) ∧ (∀ b o, b < B → w1.frozen? ⟨b, o, none⟩ = W.frozen? ⟨b, o, none⟩) :=
  ⟨fun b o h => hb.cell (p := ⟨b, o, none⟩) h, fun b o h => hb.frozen (p := ⟨b, o, none⟩) h⟩
theorem upto_succ {P : Nat → Prop} {k : Nat} (h : Hid (∀ j, j < k → P j)) (hk : P k) : Hid (∀ j, j < k + 1 → P j) := fun j hj => by
  rcases Nat.lt_succ_iff_lt_or_eq.1 hj with h1 | h1
  · exact h.out j h1
  · exact h1 ▸ hk
theorem belowN {B : Nat} {a w : World} (h : Below B a w) (n : Nat) : Below B a (w.drewN n) := ⟨h.os, h.tape, h.output, h.size, h.block⟩
theorem ret_int {k : IntKind} {a b : Int} (h : a = b) : Ending.returned (.int k a) = .returned (.int k b) := by rw [h]
theorem ret_bool {a b : Bool} (h : a = b) : Ending.returned (.bool a) = .returned (.bool b) := by rw [h]

/-- the first index at which p holds, from k on; -1 if there is none -/
def firstFrom {α : Type} (p : α → Bool) : List α → Nat → Int
  | [], _ => -1
  | x :: l, k => if p x then k else firstFrom p l (k + 1)
def firstIdx {α : Type} (p : α → Bool) (l : List α) : Int := firstFrom p l 0
theorem firstFrom_none {α : Type} (p : α → Bool) (l : List α) : ∀ k, (∀ x ∈ l, p x = false) → firstFrom p l k = -1 := by
  induction l with
  | nil => intros; rfl
  | cons x l ih => intro k h; simp only [firstFrom]; rw [if_neg (by simp [h x (by simp)])]; exact ih _ fun y hy => h y (by simp [hy])
theorem firstFrom_at {α : Type} (p : α → Bool) (l : List α) : ∀ k i, (h : i < l.length) → (∀ j, (hj : j < i) → p (l[j]'(by omega)) = false) → p l[i] = true → firstFrom p l k = (k + i : Nat) := by
  induction l with
  | nil => intro k i h; simp at h
  | cons x l ih =>
    intro k i h hn hp
    cases i with
    | zero => simp only [firstFrom]; rw [if_pos (by simpa using hp)]; simp
    | succ i =>
      simp only [firstFrom]
      have h0 := hn 0 (by omega)
      rw [if_neg (by simpa using h0), ih (k + 1) i (by simpa using h) (fun j hj => by simpa using hn (j + 1) (by omega)) (by simpa using hp)]
      congr 1; omega
theorem firstIdx_none {α : Type} (p : α → Bool) (l : List α) (h : ∀ k, (hk : k < l.length) → p l[k] = false) : firstIdx p l = -1 :=
  firstFrom_none p l 0 fun x hx => by obtain ⟨i, hi, rfl⟩ := List.mem_iff_getElem.1 hx; exact h i hi
theorem firstIdx_at {α : Type} (p : α → Bool) (l : List α) (i : Nat) (h : i < l.length) (hn : ∀ j, (hj : j < i) → p (l[j]'(by omega)) = false) (hp : p l[i] = true) : firstIdx p l = (i : Int) := by
  have := firstFrom_at p l 0 i h hn hp; simpa [firstIdx] using this
theorem firstFrom_any {α : Type} (p : α → Bool) (l : List α) : ∀ k : Nat, decide (0 ≤ firstFrom p l k) = l.any p := by
  induction l with
  | nil => intro k; simp [firstFrom]
  | cons x l ih =>
    intro k
    simp only [firstFrom, List.any_cons]
    by_cases h : p x = true
    · simp [h]
    · simp only [Bool.not_eq_true] at h; simp [h, ih]
theorem firstIdx_any {α : Type} (p : α → Bool) (l : List α) : decide (0 ≤ firstIdx p l) = l.any p := firstFrom_any p l 0

/-- cells of a list of n-cell things -/
def flat {α : Type} (f : α → List Value) (l : List α) : List Value := l.flatMap f
theorem flat_length {α : Type} (f : α → List Value) (size : Nat) (hf : ∀ x, (f x).length = size) (l : List α) : (flat f l).length = l.length * size := by
  induction l with
  | nil => simp [flat]
  | cons x l ih => simp only [flat, List.flatMap_cons, List.length_append, hf, List.length_cons] at *; rw [ih, Nat.add_mul]; omega
theorem flat_get {α : Type} (f : α → List Value) (size : Nat) (hf : ∀ x, (f x).length = size) (l : List α) : ∀ (k j : Nat) (hk : k < l.length), j < size → (flat f l)[k * size + j]? = (f l[k])[j]? := by
  induction l with
  | nil => intro k j hk; simp at hk
  | cons x l ih =>
    intro k j hk hj
    simp only [flat, List.flatMap_cons] at *
    cases k with
    | zero => rw [List.getElem?_append_left (by rw [hf]; omega)]; simp
    | succ k =>
      rw [List.getElem?_append_right (by rw [hf, Nat.add_mul]; omega), hf, show (k + 1) * size + j - size = k * size + j by rw [Nat.add_mul]; omega]
      simpa using ih k j (by simpa using hk) hj

/-- A slice of things of 'size' cells each. -/
def Sl {α : Type} (f : α → List Value) (size : Nat) (w : World) (B : Nat) (A : Option Addr) (l : List α) : Prop := Reads w B size A l.length (flat f l)
theorem Sl.below {α : Type} {f : α → List Value} {size : Nat} {w w' : World} {B : Nat} {A : Option Addr} {l : List α} (h : Sl f size w B A l) (hb : Below B w w') : Sl f size w' B A l := Reads.below h hb
theorem Sl.more {α : Type} {f : α → List Value} {size : Nat} {w : World} {B B' : Nat} {A : Option Addr} {l : List α} (h : Sl f size w B A l) (hB : B ≤ B') : Sl f size w B' A l := Reads.more h hB
theorem Sl.at_ {α : Type} {f : α → List Value} {size : Nat} {w : World} {B : Nat} {A : Option Addr} {l : List α} (h : Sl f size w B A l) (hf : ∀ x, (f x).length = size) {k : Nat} (hk : k < l.length) :
    ∃ b o, A = some ⟨b, o, none⟩ ∧ b < B ∧ ∀ j u, (f l[k])[j]? = some u → w.cell? ⟨b, o + k * size + j, none⟩ = some u := by
  obtain ⟨b, o, e, hb, hc⟩ := Reads.at_ h hk
  refine ⟨b, o, e, hb, fun j u hu => ?_⟩
  have hj : j < size := by
    rcases Nat.lt_or_ge j size with h | h
    · exact h
    · rw [List.getElem?_eq_none (by rw [hf]; exact h)] at hu; cases hu
  obtain ⟨v, hv, hcell⟩ := hc j hj
  rw [flat_get f size hf l k j hk hj, hu] at hv
  cases hv
  exact hcell

theorem Sl.of_own {α : Type} {f : α → List Value} {size : Nat} {w : World} {base : Nat} {e : TypeId} {v : Value} {l : List α} (h : w.ownsRow base e size v l.length (flat f l)) :
    ∃ A c, v = .slice A l.length c ∧ Sl f size w w.heap.size A l := by
  rcases h.2 with ⟨rfl, h0⟩ | ⟨g, cap, cur, rfl, hb, hg, hn, hc, hs, ht⟩
  · exact ⟨none, 0, by rw [h0], ⟨h.1, fun hn => by omega⟩⟩
  · refine ⟨_, _, rfl, ⟨h.1, fun hn => ⟨g, 0, rfl, ?_, fun j u hu => ?_⟩⟩⟩
    · rcases Nat.lt_or_ge g w.heap.size with hlt | hge
      · exact hlt
      · rw [Array.getElem?_eq_none hge] at hg; cases hg
    · have := h.cells (g := g) rfl j u hu
      rw [Go.WideShapes.add_plain] at this
      exact this
/-- the call returns a new slice that holds l -/
def RetOwn {α : Type} (e : TypeId) (f : α → List Value) (size : Nat) (l : List α) (w : World) (en : Ending) (w' : World) : Prop :=
  ∃ v, en = .returned v ∧ w'.ownsRow w.heap.size e size v l.length (flat f l) ∧ Below w.heap.size w w'
theorem wp_world {P : Program} {c : Code} {Q : Exit → Act → World → Prop} {a : Act} {w0 : World} (F : World → Prop) (h0 : F w0) (h : ∀ W, F W → c.wp P Q a W) : c.wp P Q a w0 := h w0 h0
/-- block b holds just these cells -/
abbrev Blk (W : World) (b : Nat) (cs : Array Value) (t : TypeId) : Prop := W.heap[b]? = some (.cells cs t (0, 0))
theorem Blk.cell {W : World} {b : Nat} {cs : Array Value} {t : TypeId} (h : Blk W b cs t) (i : Nat) : W.cell? ⟨b, i, none⟩ = cs[i]? := cell_of_row W b i cs t (0, 0) h
theorem Blk.free {W : World} {b : Nat} {cs : Array Value} {t : TypeId} (h : Blk W b cs t) (i : Nat) : W.frozen? ⟨b, i, none⟩ = false := frozen_of_row W b i cs t h
theorem Blk.lt {W : World} {b : Nat} {cs : Array Value} {t : TypeId} (h : Blk W b cs t) : b < W.heap.size := (Array.getElem?_eq_some_iff.1 h).1
theorem Blk.below {W W' : World} {b B : Nat} {cs : Array Value} {t : TypeId} (h : Blk W b cs t) (hb : Below B W W') (hB : b < B) : Blk W' b cs t := (hb.block b hB).trans h
theorem Blk.set {W : World} {b : Nat} {cs : Array Value} {t : TypeId} (h : Blk W b cs t) (i : Nat) (v : Value) : Blk (W.setCell ⟨b, i, none⟩ v) b (cs.setIfInBounds i v) t := heap_setCell_same W b i cs t v h
theorem Blk.far {W : World} {b : Nat} {cs : Array Value} {t : TypeId} (h : Blk W b cs t) (p : Addr) (hp : b ≠ p.block) (v : Value) : Blk (W.setCell p v) b cs t := (Below.heap_setCell W p v b hp).trans h
theorem Blk.new (W : World) (cs : Array Value) (t : TypeId) : Blk (W.alloc (.cells cs t)) W.heap.size cs t := heap_alloc_new W _
theorem Blk.at_ {W : World} {n : Nat} {cs : Array Value} {t : TypeId} (h : n = W.heap.size) : Blk (W.alloc (.cells cs t)) n cs t := h ▸ heap_alloc_new W _
theorem Blk.alloc {W : World} {b : Nat} {cs : Array Value} {t : TypeId} (h : Blk W b cs t) (o : Obj) : Blk (W.alloc o) b cs t := (Below.heap_alloc W o b h.lt).trans h
theorem flat_one {α : Type} (f : α → Value) (l : List α) : flat (fun x => [f x]) l = l.map f := by
  induction l with
  | nil => rfl
  | cons x l ih => simp only [flat, List.flatMap_cons, List.map_cons] at *; rw [ih]; rfl
theorem flat_snoc {α : Type} (f : α → List Value) (l : List α) (x : α) : flat f (l ++ [x]) = flat f l ++ f x := by simp [flat]
end Go.Proofs.YtfbnllmmoaialaaGreat
namespace Go.Proofs.YtfbnllmmoaialaaGreat

/-- the greatest common divisor, as an integer -/
def gI (a b : Int) : Int := (Nat.gcd a.toNat b.toNat : Int)
theorem gI_nonneg (a b : Int) : 0 ≤ gI a b := by unfold gI; omega
theorem gI_step {a b : Int} (ha : 0 ≤ a) (hb : 0 ≤ b) : gI b (a % b) = gI a b := by
  obtain ⟨a, rfl⟩ := Int.eq_ofNat_of_zero_le ha
  obtain ⟨b, rfl⟩ := Int.eq_ofNat_of_zero_le hb
  unfold gI
  have e : ((a : Int) % (b : Int)).toNat = a % b := by rw [← Int.natCast_emod]; rfl
  rw [e, Int.toNat_natCast, Int.toNat_natCast, Nat.gcd_comm b, ← Nat.gcd_rec, Nat.gcd_comm]
theorem gI_zero {a : Int} (ha : 0 ≤ a) : gI a 0 = a := by
  unfold gI; simp; omega
theorem gI_zero_left {a : Int} (ha : 0 ≤ a) : gI 0 a = a := by
  unfold gI; simp; omega
theorem gI_comm (a b : Int) : gI a b = gI b a := by unfold gI; rw [Nat.gcd_comm]
theorem gI_pos {a b : Int} (h : 0 < a ∨ 0 < b) : 0 < gI a b := by
  unfold gI
  have : 0 < Nat.gcd a.toNat b.toNat := by
    rcases h with h | h
    · exact Nat.gcd_pos_of_pos_left _ (by omega)
    · exact Nat.gcd_pos_of_pos_right _ (by omega)
  omega
theorem gI_le_left {a : Int} (b : Int) (h : 0 < a) : gI a b ≤ a := by
  unfold gI
  have := Nat.gcd_le_left b.toNat (show 0 < a.toNat by omega)
  omega
theorem gI_le_right (a : Int) {b : Int} (h : 0 < b) : gI a b ≤ b := by rw [gI_comm]; exact gI_le_left a h
theorem gI_dvd_left {a b : Int} (ha : 0 ≤ a) : gI a b ∣ a := by
  obtain ⟨a, rfl⟩ := Int.eq_ofNat_of_zero_le ha
  unfold gI; rw [Int.toNat_natCast]; exact Int.natCast_dvd_natCast.2 (Nat.gcd_dvd_left _ _)
theorem gI_dvd_right {a b : Int} (hb : 0 ≤ b) : gI a b ∣ b := by rw [gI_comm]; exact gI_dvd_left hb
theorem dvd_gI {a b d : Int} (ha : 0 ≤ a) (hb : 0 ≤ b) (h1 : d ∣ a) (h2 : d ∣ b) : d ∣ gI a b := by
  obtain ⟨a, rfl⟩ := Int.eq_ofNat_of_zero_le ha
  obtain ⟨b, rfl⟩ := Int.eq_ofNat_of_zero_le hb
  unfold gI
  rw [Int.toNat_natCast, Int.toNat_natCast]
  have h1' := Int.natAbs_dvd_natAbs.2 h1
  have h2' := Int.natAbs_dvd_natAbs.2 h2
  exact Int.natAbs_dvd.1 (Int.natCast_dvd_natCast.2 (Nat.dvd_gcd h1' h2'))
/-- the greatest common divisor of some numbers -/
def gL (l : List Int) : Int := l.foldl gI 0
theorem gL_snoc (l : List Int) (x : Int) : gL (l ++ [x]) = gI (gL l) x := by simp [gL]
theorem gL_nonneg (l : List Int) : 0 ≤ gL l := by
  have : ∀ (l : List Int) (a : Int), 0 ≤ a → 0 ≤ l.foldl gI a := fun l => by
    induction l with
    | nil => exact fun _ h => h
    | cons x l ih => exact fun a _ => ih _ (gI_nonneg _ _)
  exact this l 0 (by omega)
theorem take_snoc_int (l : List Int) (k : Nat) (h : k < l.length) : l.take (k + 1) = l.take k ++ [l[k]] := List.take_succ_eq_append_getElem h
theorem gL_take (l : List Int) (k : Nat) (h : k < l.length) : gL (l.take (k + 1)) = gI (gL (l.take k)) l[k] := by rw [take_snoc_int l k h, gL_snoc]

/-- the sum of a list -/
def sumL (l : List Int) : Int := l.sum
theorem sumL_nil : sumL [] = 0 := rfl
theorem sumL_cons (x : Int) (l : List Int) : sumL (x :: l) = x + sumL l := by simp [sumL]
theorem sumL_append (a b : List Int) : sumL (a ++ b) = sumL a + sumL b := by simp [sumL]
theorem sumL_take (l : List Int) (k : Nat) (h : k < l.length) : sumL (l.take (k + 1)) = sumL (l.take k) + l[k] := by
  rw [take_snoc_int l k h, sumL_append]; simp [sumL]
theorem sumL_nonneg : ∀ {l : List Int}, (∀ x ∈ l, 0 ≤ x) → 0 ≤ sumL l
  | [], _ => by simp [sumL]
  | x :: l, h => by
    have h1 := h x (by simp)
    have h2 := sumL_nonneg (l := l) fun y hy => h y (by simp [hy])
    rw [sumL_cons]; omega
theorem sumL_split (l : List Int) (k : Nat) : sumL l = sumL (l.take k) + sumL (l.drop k) := by rw [← sumL_append, List.take_append_drop]
theorem sumL_take_le {l : List Int} (h : ∀ x ∈ l, 0 ≤ x) (k : Nat) : 0 ≤ sumL (l.take k) ∧ sumL (l.take k) ≤ sumL l := by
  have h1 := sumL_nonneg (l := l.take k) fun x hx => h x (List.mem_of_mem_take hx)
  have h2 := sumL_nonneg (l := l.drop k) fun x hx => h x (List.mem_of_mem_drop hx)
  have := sumL_split l k
  omega
theorem le_sumL {l : List Int} (h : ∀ x ∈ l, 0 ≤ x) {k : Nat} (hk : k < l.length) : l[k] ≤ sumL l := by
  have h1 := sumL_take l k hk
  have h2 := sumL_take_le h k
  have h3 := sumL_take_le h (k + 1)
  omega
/-- the weights are valid -/
def okW (w : List Int) : Bool := w.all (fun x => decide (0 ≤ x)) && decide (1 ≤ sumL w) && decide (sumL w ≤ 1000000000000000)
/-- the error of a list of weights -/
def errW (w : List Int) : Int := if 4096 < w.length then 5 else if okW w then 0 else 2
structure OkW (w : List Int) : Prop where
  len : w.length ≤ 4096
  nn : ∀ x ∈ w, 0 ≤ x
  pos : 1 ≤ sumL w
  le : sumL w ≤ 1000000000000000
theorem okW_iff {w : List Int} : okW w = true ↔ (∀ x ∈ w, 0 ≤ x) ∧ 1 ≤ sumL w ∧ sumL w ≤ 1000000000000000 := by
  simp only [okW, Bool.and_eq_true, List.all_eq_true, decide_eq_true_eq, and_assoc]
theorem errW_zero {w : List Int} : errW w = 0 ↔ OkW w := by
  unfold errW
  constructor
  · intro h
    by_cases h1 : 4096 < w.length
    · rw [if_pos h1] at h; omega
    · rw [if_neg h1] at h
      by_cases h2 : okW w = true
      · obtain ⟨a, b, c⟩ := okW_iff.1 h2; exact ⟨by omega, a, b, c⟩
      · rw [if_neg h2] at h; omega
  · rintro ⟨h1, h2, h3, h4⟩
    rw [if_neg (by omega), if_pos (okW_iff.2 ⟨h2, h3, h4⟩)]
theorem errW_cases (w : List Int) : errW w = 0 ∨ errW w = 2 ∨ errW w = 5 := by
  unfold errW; split
  · simp
  · split <;> simp
theorem OkW.at_ {w : List Int} (h : OkW w) {k : Nat} (hk : k < w.length) : 0 ≤ w[k] ∧ w[k] ≤ 1000000000000000 :=
  ⟨h.nn _ (List.getElem_mem hk), Int.le_trans (le_sumL h.nn hk) h.le⟩
theorem OkW.pos_len {w : List Int} (h : OkW w) : 0 < w.length := by
  rcases Nat.eq_zero_or_pos w.length with h1 | h1
  · have : w = [] := List.eq_nil_of_length_eq_zero h1
    subst this
    have := h.pos; simp [sumL] at this
  · exact h1
/-- the greatest common divisor of nonnegative numbers with a positive one -/
theorem gL_dvd : ∀ (l : List Int), (∀ x ∈ l, 0 ≤ x) → ∀ x ∈ l, gL l ∣ x := by
  have key : ∀ (l : List Int) (a : Int), 0 ≤ a → (∀ x ∈ l, 0 ≤ x) → l.foldl gI a ∣ a ∧ ∀ x ∈ l, l.foldl gI a ∣ x := fun l => by
    induction l with
    | nil => exact fun a _ _ => ⟨Int.dvd_refl _, fun x hx => by cases hx⟩
    | cons y l ih =>
      intro a ha h
      have hy := h y (by simp)
      obtain ⟨h1, h2⟩ := ih (gI a y) (gI_nonneg _ _) fun x hx => h x (by simp [hx])
      refine ⟨Int.dvd_trans h1 (gI_dvd_left ha), fun x hx => ?_⟩
      rcases List.mem_cons.1 hx with rfl | hx
      · exact Int.dvd_trans h1 (gI_dvd_right hy)
      · exact h2 x hx
  exact fun l h => (key l 0 (by omega) h).2
theorem dvd_gL {d : Int} : ∀ (l : List Int), (∀ x ∈ l, 0 ≤ x) → (∀ x ∈ l, d ∣ x) → d ∣ gL l := by
  have key : ∀ (l : List Int) (a : Int), 0 ≤ a → d ∣ a → (∀ x ∈ l, 0 ≤ x) → (∀ x ∈ l, d ∣ x) → d ∣ l.foldl gI a := fun l => by
    induction l with
    | nil => exact fun a _ h _ _ => h
    | cons y l ih =>
      intro a ha hd h h2
      exact ih (gI a y) (gI_nonneg _ _) (dvd_gI ha (h y (by simp)) hd (h2 y (by simp))) (fun x hx => h x (by simp [hx])) (fun x hx => h2 x (by simp [hx]))
  exact fun l h h2 => key l 0 (by omega) (Int.dvd_zero _) h h2
theorem gL_pos {w : List Int} (hn : ∀ x ∈ w, 0 ≤ x) (hp : 1 ≤ sumL w) : 0 < gL w := by
  have h0 := gL_nonneg w
  rcases Int.lt_or_eq_of_le h0 with h | h
  · exact h
  · exfalso
    have hz : ∀ x ∈ w, x = 0 := fun x hx => by
      have := gL_dvd w hn x hx
      rw [← h] at this
      exact Int.zero_dvd.1 this
    have : ∀ l : List Int, (∀ x ∈ l, x = 0) → sumL l = 0 := fun l => by
      induction l with
      | nil => intro _; rfl
      | cons y l ih => intro h; rw [sumL_cons, h y (by simp), ih fun x hx => h x (by simp [hx])]; rfl
    rw [this w hz] at hp; omega
theorem OkW.gpos {w : List Int} (h : OkW w) : 0 < gL w := gL_pos h.nn h.pos
theorem gL_le {w : List Int} (h : OkW w) : gL w ≤ 1000000000000000 := by
  have h1 := h.gpos
  obtain ⟨x, hx, hx2⟩ : ∃ x ∈ w, 0 < x := by
    apply Classical.byContradiction
    intro hno
    have hz : ∀ x ∈ w, x ≤ 0 := fun x hx => Int.not_lt.1 fun hlt => hno ⟨x, hx, hlt⟩
    have : ∀ l : List Int, (∀ x ∈ l, x ≤ 0) → sumL l ≤ 0 := fun l => by
      induction l with
      | nil => intro _; simp [sumL]
      | cons y l ih => intro h; rw [sumL_cons]; have := h y (by simp); have := ih fun x hx => h x (by simp [hx]); omega
    have := this w hz; have := h.pos; omega
  have h2 := Int.le_of_dvd hx2 (gL_dvd w h.nn x hx)
  obtain ⟨k, hk, rfl⟩ := List.mem_iff_getElem.1 hx
  have := (h.at_ hk).2
  omega
/-- weights in lowest terms -/
def lowL (w : List Int) : List Int := w.map fun x => x / gL w
theorem lowL_len (w : List Int) : (lowL w).length = w.length := by simp [lowL]
/-- a fraction in lowest terms -/
def ratN (n d : Int) : Int := n / gI n d
def ratD (n d : Int) : Int := d / gI n d
/-- outcomes below n, in strictly ascending order, from a number on -/
def amongF (n : Int) : Int → List Int → Bool
  | _, [] => true
  | next, k :: l => decide (next ≤ k) && decide (k < n) && amongF n (k + 1) l
def amongB (l : List Int) (n : Int) : Bool := amongF n 0 l
end Go.Proofs.YtfbnllmmoaialaaGreat
namespace Go.Proofs.YtfbnllmmoaialaaGreat
open Go.RowKit

def intCell (x : Int) : List Value := [.int .i64 x]
theorem infoInt : (Tryz.prog.info? 3).map (fun i => (i.zero, i.size, i.bytes)) = some (some (.int .i64 0), 1, 8) := by kernel_rfl
theorem uInts : Tryz.prog.underlying 42 = some (.slice 3) := by kernel_rfl
theorem gen_w {F : Act → World → Prop} {a : Act} {W : World} (P : World → Prop) (h : P W) (k : ∀ W', P W' → F a W') : F a W := k W h
theorem sl_one {α : Type} {f : α → List Value} {size : Nat} {W : World} {b t : Nat} {l : List α} {cs : Array Value} (h : Blk W b cs t) (hl : (flat f l).length = l.length * size) (hcs : (flat f l).toArray = cs) : Sl f size W W.heap.size (some ⟨b, 0, none⟩) l := by
  refine ⟨hl, fun _ => ⟨b, 0, rfl, h.lt, fun j u hu => ?_⟩⟩
  rw [Nat.zero_add, h.cell j, ← hcs]; simpa using hu
theorem sl_nil {α : Type} {f : α → List Value} {size : Nat} {W : World} {B : Nat} : Sl f size W B none [] := ⟨by simp [flat], fun h => by simp at h⟩
theorem bl3 {w W1 W2 : World} {o : Obj} (h1 : Below w.heap.size w W1) (h2 : Below (W1.alloc o).heap.size (W1.alloc o) W2) : Below w.heap.size w W2 :=
  h1.trans ((((Below.refl W1.heap.size W1).alloc (Nat.le_refl _) o).trans (h2.mono (by simp))).mono h1.size)
theorem bl2 {w W1 W2 : World} (h1 : Below w.heap.size w W1) (h2 : Below W1.heap.size W1 W2) : Below w.heap.size w W2 := h1.trans (h2.mono h1.size)
theorem bla {w W1 : World} {o : Obj} (h1 : Below w.heap.size w W1) : Below w.heap.size w (W1.alloc o) := h1.alloc h1.size o
/-- a slice of integers, at place k -/
theorem Sl.int_at {w : World} {B : Nat} {A : Option Addr} {l : List Int} (h : Sl intCell 1 w B A l) {k : Nat} (hk : k < l.length) : ∃ b o, A = some ⟨b, o, none⟩ ∧ b < B ∧ w.cell? ⟨b, o + k, none⟩ = some (.int .i64 l[k]) := by
  obtain ⟨b, o, e, hb, hc⟩ := h.at_ (fun _ => rfl) hk
  exact ⟨b, o, e, hb, by have := hc 0 _ rfl; simpa using this⟩
theorem Sl.len_pos {α : Type} {f : α → List Value} {size : Nat} {w : World} {B : Nat} {l : List α} (h : Sl f size w B none l) : l = [] := by
  rcases Nat.eq_zero_or_pos l.length with h1 | h1
  · exact List.eq_nil_of_length_eq_zero h1
  · obtain ⟨b, o, e, _⟩ := h.2 h1; cases e
theorem flat_int (l : List Int) : flat intCell l = l.map (Value.int .i64) := flat_one _ l
/-- a slice of integers and an error are returned -/
def RetSlE (l : List Int) (er : Int) (w : World) (e : Ending) (w' : World) : Prop :=
  ∃ A c, e = .returned (.tuple #[.slice A l.length c, .int .i64 er]) ∧ Sl intCell 1 w' w'.heap.size A l ∧ (A = none → c = 0) ∧ Below w.heap.size w w'
theorem retSlE_nil {er : Int} {w w' : World} (h : Below w.heap.size w w') : RetSlE [] er w (.returned (.tuple #[.slice none 0 0, .int .i64 er])) w' := ⟨none, 0, rfl, sl_nil, fun _ => rfl, h⟩
theorem ret_tup {k : IntKind} {a b c d : Int} (h : a = b) (h' : c = d) : Ending.returned (.tuple #[.int k a, .int k c]) = .returned (.tuple #[.int k b, .int k d]) := by rw [h, h']
/-- block b holds just these integers -/
abbrev Arr (W : World) (b : Nat) (l : List Int) : Prop := Blk W b (l.map (Value.int .i64)).toArray 3
section
variable {W : World} {b : Nat} {l : List Int}
theorem Arr.cell_ (h : Arr W b l) {j : Nat} {v : Int} (hv : l[j]? = some v) : W.cell? ⟨b, j, none⟩ = some (.int .i64 v) := by
  rw [Blk.cell h]; simp [hv]
theorem Arr.at_ (h : Arr W b l) {j : Nat} (hj : j < l.length) : W.cell? ⟨b, j, none⟩ = some (.int .i64 l[j]) := h.cell_ (List.getElem?_eq_getElem hj)
theorem Arr.put (h : Arr W b l) (j : Nat) (x : Int) : Arr (W.setCell ⟨b, j, none⟩ (.int .i64 x)) b (l.set j x) := by
  have := Blk.set h j (.int .i64 x)
  rw [List.setIfInBounds_toArray, ← List.map_set] at this
  exact this
theorem Arr.sl (h : Arr W b l) : Sl intCell 1 W W.heap.size (some ⟨b, 0, none⟩) l :=
  sl_one h (by rw [flat_int]; simp) (by rw [flat_int])
theorem Arr.lt_ (h : Arr W b l) : b < W.heap.size := Blk.lt h
end
theorem toList_madeCells_one' (z : Value) (n : Nat) (h : z.cells = #[z]) : (madeCells z.cells (n * 1)).toList = List.replicate n z := by rw [h, Nat.mul_one]; exact toList_madeCells_one z n
theorem wpList_make_arr {P : Program} (w : World) {ops : Array Oper} {rest : List Oper} {o : Oper} {a : Act} {Q : Exit → Act → World → Prop}
    (hg : o.guard = none) (l c : Operand) (hop : o.op = Op.makeSlice 42 l c) (i : TypeInfo) (h1 : P.underlying 42 = some (.slice 3)) (h2 : P.info? 3 = some i) (h3 : i.zero = some (.int .i64 0)) (h4 : i.size = 1) (h5 : i.bytes = 8)
    (kl kc : IntKind) (L C : Int) (n : Nat) (hl : a.eval l = .int kl L) (hc : a.eval c = .int kc C) (hL : L = (n : Int)) (hC : C = (n : Int)) (b3 : n ≤ 1000000000)
    (hK : ∀ w', Arr w' w.heap.size (List.replicate n 0) → Below w.heap.size w w' → Hid (wpList P ops Q rest (a.put o.dst (.slice (some ⟨w.heap.size, 0, none⟩) n n)) w')) :
    wpList P ops Q (o :: rest) a w := by
  refine wpList_make_full w hg l c 42 hop w.heap.size 3 i (.int .i64 0) 1 h1 h2 h3 h4 kl kc L C n hl hc hL hC (by rw [h5]; omega) (by unfold maxLen; omega) (Nat.le_refl _) ?_
  intro w' how hgr
  refine (hK w' ?_ ((Below.refl _ _).grown hgr (Nat.le_refl _) (fun g hg => by cases hg))).out
  rw [toList_madeCells_one' _ _ rfl] at how
  rcases how.2 with ⟨h', _⟩ | ⟨g', cap', cur, h', hb, hg, hnc, hcm, hcs, htake⟩
  · simp at h'
  · simp only [Value.slice.injEq, Option.some.injEq, Addr.mk.injEq, and_true, true_and] at h'
    obtain ⟨rfl, rfl⟩ := h'
    have : cur = (List.replicate n (Value.int .i64 0)).toArray := by
      rw [← htake, List.take_of_length_le (by simp [hcs])]
    show w'.heap[w.heap.size]? = some (.cells ((List.replicate n 0).map (Value.int .i64)).toArray 3 (0, 0))
    rw [List.map_replicate, ← this]; exact hg
/-- a slice of integers is returned -/
def RetL (l : List Int) (w : World) (e : Ending) (w' : World) : Prop :=
  ∃ A c, e = .returned (.slice A l.length c) ∧ Sl intCell 1 w' w'.heap.size A l ∧ (A = none → c = 0) ∧ Below w.heap.size w w'
theorem RetL.of_arr {l : List Int} {w w' : World} {b n : Nat} (h : Arr w' b l) (hn : n = l.length) (hb : Below w.heap.size w w') : RetL l w (.returned (.slice (some ⟨b, 0, none⟩) n n)) w' := ⟨_, _, by rw [hn], h.sl, fun e => (by cases e), hb⟩
theorem RetSlE.of_arr {l : List Int} {w w' : World} {b n : Nat} {er : Int} (h : Arr w' b l) (hn : n = l.length) (hb : Below w.heap.size w w') : RetSlE l er w (.returned (.tuple #[.slice (some ⟨b, 0, none⟩) n n, .int .i64 er])) w' := ⟨_, _, by rw [hn], h.sl, fun e => (by cases e), hb⟩
/-- a slice of lists of integers: addresses, capacities, lists -/
structure LL where
  a : Option Addr
  c : Nat
  l : List Int
def LL.val (x : LL) : Value := .slice x.a x.l.length x.c
def LL.cells (x : LL) : List Value := [x.val]
/-- lists of lists, that read below block B -/
structure Lists (w : World) (B : Nat) (A : Option Addr) (ls : List LL) : Prop where
  top : Sl LL.cells 1 w B A ls
  row : ∀ x ∈ ls, Sl intCell 1 w B x.a x.l
theorem Lists.below {w w' : World} {B : Nat} {A : Option Addr} {ls : List LL} (h : Lists w B A ls) (hb : Below B w w') : Lists w' B A ls := ⟨h.top.below hb, fun x hx => (h.row x hx).below hb⟩
theorem Lists.more {w : World} {B B' : Nat} {A : Option Addr} {ls : List LL} (h : Lists w B A ls) (hB : B ≤ B') : Lists w B' A ls := ⟨h.top.more hB, fun x hx => (h.row x hx).more hB⟩
theorem Lists.at_ {w : World} {B : Nat} {A : Option Addr} {ls : List LL} (h : Lists w B A ls) {k : Nat} (hk : k < ls.length) : ∃ b o, A = some ⟨b, o, none⟩ ∧ b < B ∧ w.cell? ⟨b, o + k, none⟩ = some (.slice ls[k].a ls[k].l.length ls[k].c) ∧ Sl intCell 1 w B ls[k].a ls[k].l := by
  obtain ⟨b, o, e, hb, hc⟩ := h.top.at_ (fun _ => rfl) hk
  exact ⟨b, o, e, hb, by have := hc 0 _ rfl; simpa [LL.val] using this, h.row _ (List.getElem_mem hk)⟩
end Go.Proofs.YtfbnllmmoaialaaGreat
namespace Go.Proofs.YtfbnllmmoaialaaGreat
open Go.RowKit

/-- n lies from a to b -/
def inB (n a b : Int) : Bool := decide (a ≤ n ∧ n ≤ b)
theorem inB_iff {n a b : Int} : inB n a b = true ↔ a ≤ n ∧ n ≤ b := by simp [inB]
theorem inB_not {n a b : Int} : inB n a b = false ↔ ¬ (a ≤ n ∧ n ≤ b) := by simp [inB]
theorem within_any (n a b : Int) (w : World) : Calls Tryz.prog 35 #[.int .i64 n, .int .i64 a, .int .i64 b] w fun e w' => e = .returned (.bool (inB n a b)) ∧ w = w' := by
  by_cases h : a ≤ n
  · have h' : decide (a ≤ n) = true := by simpa using h
    by_cases h2 : n ≤ b
    · have h2' : decide (n ≤ b) = true := by simpa using h2
      go_enter Tryz.func35, Tryz.ntmps35
      go_wp2
      go_ret
      exact ⟨by simp [inB, h, h2], rfl⟩
    · have h2' : decide (n ≤ b) = false := by simpa using h2
      go_enter Tryz.func35, Tryz.ntmps35
      go_wp2
      go_ret
      exact ⟨by simp [inB, h2], rfl⟩
  · have h' : decide (a ≤ n) = false := by simpa using h
    go_enter Tryz.func35, Tryz.ntmps35
    go_wp2
    go_ret
    exact ⟨by simp [inB]; omega, rfl⟩
theorem within_val {n a b : Int} {v : Bool} (h : inB n a b = v) (w : World) : Calls Tryz.prog 35 #[.int .i64 n, .int .i64 a, .int .i64 b] w fun e w' => e = .returned (.bool v) ∧ w = w' := h ▸ within_any n a b w
theorem isDay_any (n : Int) (w : World) : Calls Tryz.prog 36 #[.int .i64 n] w fun e w' => e = .returned (.bool (inB n 0 1000000)) ∧ w = w' := by
  go_enter Tryz.func36, Tryz.ntmps36
  go_wp2_with (go_at_call 35; refine (within_any _ _ _ _).mono ?_; rintro _ _ ⟨rfl, rfl⟩)
  go_ret
  exact ⟨rfl, rfl⟩
/-- a cycle: how many days, the first day with the position 0 -/
structure Cyc where
  l : Int
  s : Int
def Cyc.cells (c : Cyc) : List Value := [.int .i64 c.l, .int .i64 c.s]
def cycB (c : Cyc) : Bool := inB c.l 1 64 && inB c.s 0 (c.l - 1)
theorem cycB_iff {c : Cyc} : cycB c = true ↔ (1 ≤ c.l ∧ c.l ≤ 64) ∧ 0 ≤ c.s ∧ c.s ≤ c.l - 1 := by rw [cycB, Bool.and_eq_true, inB_iff, inB_iff]
theorem isCycle_any (l s : Int) (w : World) : Calls Tryz.prog 62 #[.agg #[.int .i64 l, .int .i64 s]] w fun e w' => e = .returned (.bool (cycB ⟨l, s⟩)) ∧ Below w.heap.size w w' := by
  cases h : inB l 1 64 with
  | true =>
    have hb := inB_iff.1 h
    have HW := Lib.hid (fun W => within_val h W)
    have HT : Hid (cycB ⟨l, s⟩ = inB s 0 (l - 1)) := (by simp [cycB, h] : cycB ⟨l, s⟩ = inB s 0 (l - 1))
    clear h
    go_enter Tryz.func62, Tryz.ntmps62
    go_wp2_with (first | (go_at_call 35; (with_reducible refine (HW.out _).mono ?_); rintro _ _ ⟨rfl, rfl⟩) | (go_at_call 35; refine (within_any _ _ _ _).mono ?_; rintro _ _ ⟨rfl, rfl⟩))
    go_ret
    exact ⟨ret_bool HT.out.symm, by (repeat (first | exact Below.refl _ _ | assumption | (refine Below.alloc ?_ (by first | omega | (simp; omega) | (simp; done)) _) | (refine Below.setCell ?_ (by first | omega | (simp; omega) | (simp; done)) _) | (refine Below.drew ?_) | (refine belowN ?_ _) | (refine Below.trans ?_ (Below.mono ‹Below _ _ _› (by first | omega | (simp; omega) | (simp; done))))))⟩
  | false =>
    have HW := Lib.hid (fun W => within_val h W)
    have HT : Hid (cycB ⟨l, s⟩ = false) := (by simp [cycB, h] : cycB ⟨l, s⟩ = false)
    clear h
    go_enter Tryz.func62, Tryz.ntmps62
    go_wp2_with (go_at_call 35; (with_reducible refine (HW.out _).mono ?_); rintro _ _ ⟨rfl, rfl⟩)
    go_ret
    exact ⟨ret_bool HT.out.symm, by (repeat (first | exact Below.refl _ _ | assumption | (refine Below.alloc ?_ (by first | omega | (simp; omega) | (simp; done)) _) | (refine Below.setCell ?_ (by first | omega | (simp; omega) | (simp; done)) _) | (refine Below.drew ?_) | (refine belowN ?_ _) | (refine Below.trans ?_ (Below.mono ‹Below _ _ _› (by first | omega | (simp; omega) | (simp; done))))))⟩
/-- the position of a day in a cycle -/
def posI (c : Cyc) (d : Int) : Int := (d - c.s + c.l) % c.l
theorem position_any (l s d : Int) (w : World) (h : cycB ⟨l, s⟩ = true) (h0 : 0 ≤ d) (h1 : d ≤ 2000000) : Calls Tryz.prog 37 #[.agg #[.int .i64 l, .int .i64 s], .int .i64 d] w fun e w' => e = .returned (.int .i64 (posI ⟨l, s⟩ d)) ∧ Below w.heap.size w w' := by
  obtain ⟨⟨a1, a2⟩, a3, a4⟩ := cycB_iff.1 h
  simp only at a1 a2 a3 a4
  have l0 : (l == 0) = false := by simp; omega
  clear h
  go_enter Tryz.func37, Tryz.ntmps37
  go_wp2
  go_ret
  exact ⟨rfl, by (repeat (first | exact Below.refl _ _ | assumption | (refine Below.alloc ?_ (by first | omega | (simp; omega) | (simp; done)) _) | (refine Below.setCell ?_ (by first | omega | (simp; omega) | (simp; done)) _) | (refine Below.drew ?_) | (refine belowN ?_ _) | (refine Below.trans ?_ (Below.mono ‹Below _ _ _› (by first | omega | (simp; omega) | (simp; done))))))⟩
end Go.Proofs.YtfbnllmmoaialaaGreat
namespace Go.Proofs.YtfbnllmmoaialaaGreat
open Go.RowKit

theorem gI_next {x y : Int} (hx : 0 ≤ x) (hy : 0 ≤ y) (h : y ≠ 0) : gI y (x % y) = gI x y ∧ 0 ≤ x % y ∧ x % y < y ∧ x % y ≤ x :=
  ⟨gI_step hx hy, Int.emod_nonneg _ h, Int.emod_lt_of_pos _ (by omega), by
    rcases Int.lt_or_le x y with h1 | h1
    · rw [Int.emod_eq_of_lt hx h1]; exact Int.le_refl _
    · have := Int.emod_lt_of_pos x (show 0 < y by omega); omega⟩
theorem divisor_any (a b : Int) (w : World) (ha : 0 ≤ a) (hb : 0 ≤ b) (ha' : a ≤ 4000000000000000000) (hb' : b ≤ 4000000000000000000) :
    Calls Tryz.prog 38 #[.int .i64 a, .int .i64 b] w fun e w' => e = .returned (.int .i64 (gI a b)) ∧ Below w.heap.size w w' := by
  go_enter Tryz.func38, Tryz.ntmps38
  go_wp2
  go_loopw [0, 1] (fun v b' wr => ∃ p q : Int, 0 ≤ p ∧ 0 ≤ q ∧ p ≤ 4000000000000000000 ∧ q ≤ 4000000000000000000 ∧ v = .int .i64 p ∧ b' = .int .i64 q ∧ Hid (gI p q = gI a b) ∧ Below w.heap.size w wr) (fun _ b' _ => (intOf b').toNat)
  case atStart => exact ⟨a, b, ha, hb, ha', hb', rfl, rfl, rfl, Below.refl _ _⟩
  case round =>
    obtain ⟨p, q, p0, q0, p1, q1, rfl, rfl, HG, hb2⟩ := hrel
    by_cases hq : q = 0
    · subst hq
      have HP := Lib.hid (gI_zero p0)
      go_wp2
      go_ret
      exact ⟨ret_int (HP.out.symm.trans HG.out), hb2⟩
    · have e0 : (q != 0) = true := by simpa using hq
      have e1 : (q == 0) = false := by simpa using hq
      obtain ⟨h1, h2, h3, h4⟩ := gI_next p0 q0 hq
      have H1 := Lib.hid h1
      clear h1
      go_wp2
      go_quiet (fail)
      go_wp2
      go_roundw
      case rel => exact ⟨q, p % q, q0, h2, q1, by omega, rfl, rfl, by rw [H1.out]; exact HG.out, belowN hb2 _⟩
      case measure => simp [intOf]; omega
/-- a rule for years -/
structure Sol where
  e : Int
  b : Int
  u : Int
def solB (r : Sol) : Bool := inB r.e 0 100000 && inB r.b 0 100000 && inB r.u 0 100000
theorem isSolar_any (e b u : Int) (w : World) : Calls Tryz.prog 39 #[.agg #[.int .i64 e, .int .i64 b, .int .i64 u]] w fun en w' => en = .returned (.bool (solB ⟨e, b, u⟩)) ∧ Below w.heap.size w w' := by
  cases h1 : inB e 0 100000 with
  | true =>
    have H1 := Lib.hid (fun W => within_val h1 W)
    cases h2 : inB b 0 100000 with
    | true =>
      have H2 := Lib.hid (fun W => within_val h2 W)
      have HT : Hid (solB ⟨e, b, u⟩ = inB u 0 100000) := (by simp [solB, h1, h2] : solB ⟨e, b, u⟩ = _)
      clear h1 h2
      by_cases hbb : b = e
      · subst hbb
        go_enter Tryz.func39, Tryz.ntmps39
        go_wp2_with (first | (go_at_call 35; (with_reducible refine (H1.out _).mono ?_); rintro _ _ ⟨rfl, rfl⟩) | (go_at_call 35; (with_reducible refine (H2.out _).mono ?_); rintro _ _ ⟨rfl, rfl⟩) | (go_at_call 35; refine (within_any _ _ _ _).mono ?_; rintro _ _ ⟨rfl, rfl⟩))
        go_ret
        exact ⟨ret_bool HT.out.symm, by (repeat (first | exact Below.refl _ _ | assumption | (refine Below.alloc ?_ (by first | omega | (simp; omega) | (simp; done)) _) | (refine Below.setCell ?_ (by first | omega | (simp; omega) | (simp; done)) _) | (refine Below.drew ?_) | (refine belowN ?_ _) | (refine Below.trans ?_ (Below.mono ‹Below _ _ _› (by first | omega | (simp; omega) | (simp; done))))))⟩
      · go_enter Tryz.func39, Tryz.ntmps39
        go_wp2_with (first | (go_at_call 35; (with_reducible refine (H1.out _).mono ?_); rintro _ _ ⟨rfl, rfl⟩) | (go_at_call 35; (with_reducible refine (H2.out _).mono ?_); rintro _ _ ⟨rfl, rfl⟩) | (go_at_call 35; refine (within_any _ _ _ _).mono ?_; rintro _ _ ⟨rfl, rfl⟩))
        go_ret
        exact ⟨ret_bool HT.out.symm, by (repeat (first | exact Below.refl _ _ | assumption | (refine Below.alloc ?_ (by first | omega | (simp; omega) | (simp; done)) _) | (refine Below.setCell ?_ (by first | omega | (simp; omega) | (simp; done)) _) | (refine Below.drew ?_) | (refine belowN ?_ _) | (refine Below.trans ?_ (Below.mono ‹Below _ _ _› (by first | omega | (simp; omega) | (simp; done))))))⟩
    | false =>
      have H2 := Lib.hid (fun W => within_val h2 W)
      have HT : Hid (solB ⟨e, b, u⟩ = false) := (by simp [solB, h1, h2] : solB ⟨e, b, u⟩ = _)
      clear h1 h2
      go_enter Tryz.func39, Tryz.ntmps39
      go_wp2_with (first | (go_at_call 35; (with_reducible refine (H1.out _).mono ?_); rintro _ _ ⟨rfl, rfl⟩) | (go_at_call 35; (with_reducible refine (H2.out _).mono ?_); rintro _ _ ⟨rfl, rfl⟩) | (go_at_call 35; refine (within_any _ _ _ _).mono ?_; rintro _ _ ⟨rfl, rfl⟩))
      go_ret
      exact ⟨ret_bool HT.out.symm, by (repeat (first | exact Below.refl _ _ | assumption | (refine Below.alloc ?_ (by first | omega | (simp; omega) | (simp; done)) _) | (refine Below.setCell ?_ (by first | omega | (simp; omega) | (simp; done)) _) | (refine Below.drew ?_) | (refine belowN ?_ _) | (refine Below.trans ?_ (Below.mono ‹Below _ _ _› (by first | omega | (simp; omega) | (simp; done))))))⟩
  | false =>
    have H1 := Lib.hid (fun W => within_val h1 W)
    have HT : Hid (solB ⟨e, b, u⟩ = false) := (by simp [solB, h1] : solB ⟨e, b, u⟩ = _)
    clear h1
    go_enter Tryz.func39, Tryz.ntmps39
    go_wp2_with (first | (go_at_call 35; (with_reducible refine (H1.out _).mono ?_); rintro _ _ ⟨rfl, rfl⟩) | (go_at_call 35; (with_reducible refine (H2.out _).mono ?_); rintro _ _ ⟨rfl, rfl⟩) | (go_at_call 35; refine (within_any _ _ _ _).mono ?_; rintro _ _ ⟨rfl, rfl⟩))
    go_ret
    exact ⟨ret_bool HT.out.symm, by (repeat (first | exact Below.refl _ _ | assumption | (refine Below.alloc ?_ (by first | omega | (simp; omega) | (simp; done)) _) | (refine Below.setCell ?_ (by first | omega | (simp; omega) | (simp; done)) _) | (refine Below.drew ?_) | (refine belowN ?_ _) | (refine Below.trans ?_ (Below.mono ‹Below _ _ _› (by first | omega | (simp; omega) | (simp; done))))))⟩
/-- a wheel: it is at (by n + start) / per, rounded down, after n turns -/
def atW (by_ per st n : Int) : Int := (by_ * n + st) / per
def turnsW (by_ per st x : Int) : Int := ((x + 1) * per - 1 - st) / by_
theorem wheelAt_any (b p s n : Int) (w : World) (hp : 1 ≤ p) (h0 : 0 ≤ b * n) (h1 : b * n ≤ 1000000000000000) (s0 : 0 ≤ s) (s1 : s ≤ 1000000) :
    Calls Tryz.prog 69 #[.agg #[.int .i64 b, .int .i64 p, .int .i64 s], .int .i64 n] w fun e w' => e = .returned (.int .i64 (atW b p s n)) ∧ Below w.heap.size w w' := by
  have p0 : (p == 0) = false := by simp; omega
  go_enter Tryz.func69, Tryz.ntmps69
  go_wp2
  go_ret
  exact ⟨rfl, by (repeat (first | exact Below.refl _ _ | assumption | (refine Below.alloc ?_ (by first | omega | (simp; omega) | (simp; done)) _) | (refine Below.setCell ?_ (by first | omega | (simp; omega) | (simp; done)) _) | (refine Below.drew ?_) | (refine belowN ?_ _) | (refine Below.trans ?_ (Below.mono ‹Below _ _ _› (by first | omega | (simp; omega) | (simp; done))))))⟩
theorem wheelTurns_any (b p s x : Int) (w : World) (hb : 1 ≤ b) (x0 : 0 ≤ x) (x1 : x ≤ 10000000) (p1 : 1 ≤ p) (p2 : p ≤ 100000) (s0 : 0 ≤ s) (s1 : s < p) :
    Calls Tryz.prog 68 #[.agg #[.int .i64 b, .int .i64 p, .int .i64 s], .int .i64 x] w fun e w' => e = .returned (.int .i64 (turnsW b p s x)) ∧ Below w.heap.size w w' := by
  have b0 : (b == 0) = false := by simp; omega
  have h0 : p ≤ (x + 1) * p := by have := Int.mul_le_mul_of_nonneg_right (show 1 ≤ x + 1 by omega) (show 0 ≤ p by omega); omega
  have h1 : (x + 1) * p ≤ 1000001100000 := by
    have h2 := Int.mul_le_mul_of_nonneg_right (show x + 1 ≤ 10000001 by omega) (show 0 ≤ p by omega)
    have h3 := Int.mul_le_mul_of_nonneg_left p2 (show (0 : Int) ≤ 10000001 by omega)
    omega
  go_enter Tryz.func68, Tryz.ntmps68
  go_wp2
  go_ret
  exact ⟨rfl, by (repeat (first | exact Below.refl _ _ | assumption | (refine Below.alloc ?_ (by first | omega | (simp; omega) | (simp; done)) _) | (refine Below.setCell ?_ (by first | omega | (simp; omega) | (simp; done)) _) | (refine Below.drew ?_) | (refine belowN ?_ _) | (refine Below.trans ?_ (Below.mono ‹Below _ _ _› (by first | omega | (simp; omega) | (simp; done))))))⟩
end Go.Proofs.YtfbnllmmoaialaaGreat

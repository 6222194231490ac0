/- Ranges over functions: a contract for iterators that hand over memory, one law for the caller, and drawn regions within a round. -/
import Derived.Test.YtfbnllmmoaialaaGreatZ00Mem
import Derived.RangeFuncNested
import Derived.RangeFuncBound
import Derived.RangeFuncCalls
import Derived.RangeFuncLeaves
import Derived.OwnWalkIn
import Derived.TacticsInMore
import Derived.LoopNIn
import Derived.LoopIn
import Derived.OrdersIn
import Derived.StillTail
namespace Go.Proofs.YtfbnllmmoaialaaGreat
open Go.RowKit

/-- what holds of a world holds when a block that is no cells, from B on, has turned, or blocks have come -/
def Stab (B : Nat) (I : World → Prop) : Prop :=
  ∀ W W' row, I W → W.grownBy W' row → (∀ r, row = some r → B ≤ r ∧ ∃ o : Obj, W.heap[r]? = some o ∧ o.isCells = false) → I W'
theorem Stab.putObj {B : Nat} {I : World → Prop} (h : Stab B I) {W : World} {l : Nat} {o : Obj} (o' : Obj) (hs : I W) (hB : B ≤ l) (hl : W.heap[l]? = some o) (ho : o.isCells = false) : I (W.putObj l o') :=
  h W _ (some l) hs (grownBy_putObj' W l o') (fun r e => by cases e; exact ⟨hB, o, hl, ho⟩)
theorem Stab.below {B : Nat} {I : World → Prop} (h : Stab B I) {W W' : World} (hs : I W) (hb : Below W.heap.size W W') : I W' :=
  h W W' none hs ⟨hb.os, hb.tape, hb.output, hb.size, fun k hk _ => hb.block k hk⟩ (fun r e => by cases e)
theorem Stab.and {B : Nat} {I I' : World → Prop} (h : Stab B I) (h' : Stab B I') : Stab B (fun W => I W ∧ I' W) := fun W W' row hs hg hr => ⟨h W W' row hs.1 hg hr, h' W W' row hs.2 hg hr⟩
theorem Stab.pure {B : Nat} (p : Prop) : Stab B (fun _ => p) := fun _ _ _ h _ _ => h
theorem Stab.ex {B : Nat} {α : Type} {I : α → World → Prop} (h : ∀ x, Stab B (I x)) : Stab B (fun W => ∃ x, I x W) := fun W W' row ⟨x, hx⟩ hg hr => ⟨x, h x W W' row hx hg hr⟩
theorem Stab.low {B b : Nat} (hb : b ≤ B) (w : World) (hw : b ≤ w.heap.size) : Stab B (fun W => Below b w W) := fun W W' row hs hg hr =>
  hs.grown hg (Nat.le_trans hw hs.size) (fun k e => Nat.le_trans hb (hr k e).1)
theorem Stab.cell {B : Nat} (a : Addr) (v : Value) : Stab B (fun W => W.cell? a = some v) := fun _ _ _ hs hg hr => cell_kept hs hg (fun r e => (hr r e).2)
theorem Stab.free {B : Nat} (a : Addr) (v : Value) : Stab B (fun W => W.cell? a = some v ∧ W.frozen? a = false) := fun _ _ _ hs hg hr =>
  ⟨cell_kept hs.1 hg (fun r e => (hr r e).2), (frozen_kept hs.1 hg (fun r e => (hr r e).2)).trans hs.2⟩
theorem Stab.blk {B : Nat} (b : Nat) (cs : Array Value) (t : TypeId) (f : Nat × Nat) : Stab B (fun W => W.heap[b]? = some (.cells cs t f)) := fun W W' row hs hg hr => by
  refine (hg.block b (Array.getElem?_eq_some_iff.1 hs).1 fun e => ?_).trans hs
  obtain ⟨_, o, ho, hc⟩ := hr b e.symm
  rw [hs] at ho; cases ho; cases hc
theorem Stab.lowBlk {B : Nat} (b : Nat) (hb : b < B) (o : Obj) : Stab B (fun W => W.heap[b]? = some o) := fun W W' row hs hg hr => by
  refine (hg.block b (Array.getElem?_eq_some_iff.1 hs).1 fun e => ?_).trans hs
  have := (hr b e.symm).1; omega
theorem Stab.owns {B base : Nat} (e : TypeId) (size : Nat) (v : Value) (n : Nat) (xs : List Value) : Stab B (fun W => W.ownsRow base e size v n xs) := fun W W' row hs hg hr => by
  refine hs.kept hg ?_
  rcases hs.2 with ⟨rfl, _⟩ | ⟨g, cap, cur, rfl, _, hgb, _⟩
  · exact .inl rfl
  · refine .inr fun ee => ?_
    obtain ⟨_, o, ho, hc⟩ := hr g ee.symm
    rw [hgb] at ho; cases ho; cases hc
theorem Stab.reads {B b size n : Nat} (A : Option Addr) (xs : List Value) : Stab B (fun W => Reads W b size A n xs) := fun W W' row hs hg hr =>
  ⟨hs.1, fun hn => by
    obtain ⟨bb, o, e, hb, hc⟩ := hs.2 hn
    exact ⟨bb, o, e, hb, fun j u hu => cell_kept (hc j u hu) hg (fun r e => (hr r e).2)⟩⟩
theorem Stab.size {B n : Nat} : Stab B (fun W => n ≤ W.heap.size) := fun _ _ _ hs hg _ => Nat.le_trans hs hg.size

/-- THE ITERATOR: called with yield it makes N rounds, unless it is told to stop; round k is handed what Enc says; D is what it wants to find between two rounds. -/
def Iter (gf : Nat) (lb : Array Value) (D : World → Prop) (Enc : Nat → World → Array Value → Prop) (N : Nat) : Prop :=
  ∀ (l : Nat) (J : Nat → World → Prop) (Jx : World → Prop) (W : World),
    (∀ k W W', J k W → Below W.heap.size W W' → J k W') → (∀ W W', Jx W → Below W.heap.size W W' → Jx W') → (∀ k W, J k W → D W) →
    (∀ k W xs, k < N → J k W → Enc k W xs → YieldAt Fence.wide 1 Tryz.prog l xs W fun e W' => (e = .returned (.bool true) ∧ J (k + 1) W') ∨ (e = .returned (.bool false) ∧ Jx W')) →
    J 0 W → Calls Tryz.prog gf (#[.func (.yield l) #[] #[]] ++ lb) W fun e W' => (∃ v, e = .returned v) ∧ (J N W' ∨ Jx W')

/-- how a round may be left -/
def roundOut (B : Nat) (I : World → Prop) (Ix : Code → World → Prop) (W : World) : Exit → Act → World → Prop
  | .normal, _, W' => KeepsFrom B W W' ∧ I W'
  | .ret, _, W' => KeepsFrom B W W' ∧ Ix .ret W'
  | .exit id, _, W' => KeepsFrom B W W' ∧ Ix (.exit id) W'
  | .goto t, _, W' => KeepsFrom B W W' ∧ Ix (.goto t) W'
  | .panic _, _, _ => False
  | .outgrown, _, _ => False
/-- what stands behind the assignment to the loop's variables -/
def assignOut (B : Nat) (Ax : Act → World → Prop) (W : World) : Exit → Act → World → Prop
  | .normal, a, W' => KeepsFrom B W W' ∧ Ax a W'
  | _, _, _ => False

theorem wp_range {g : Operand} {ps : Array Tmp} {assign body : Code} {Q : Exit → Act → World → Prop} {a : Act} {w : World} {gf : Nat} {lb : Array Value}
    (hg : a.eval g = .func (.func gf) #[] lb) (eg : Ent gf) {D : World → Prop} {Enc : Nat → World → Array Value → Prop} {N : Nat} (hit : Iter gf lb D Enc N)
    (I : Nat → World → Prop) (Ix : Code → World → Prop) (Ax : Nat → Act → World → Prop)
    (hI : ∀ k, Stab w.heap.size (I k)) (hIx : ∀ c, Stab w.heap.size (Ix c)) (hAx : ∀ k a₁, Stab w.heap.size (Ax k a₁)) (hD : ∀ k W, I k W → D W) (h0 : I 0 w)
    (hps : ∀ k W xs, k < N → I k W → Enc k W xs → xs.size = ps.size)
    (hassign : ∀ l k xs W, k < N → I k W → Enc k W xs → w.heap.size < l → l < W.heap.size → assign.wpIn (Fence.wide.inRound l) 1 Tryz.prog (assignOut w.heap.size (Ax k) W) { tmps := (ps.zip xs).foldl (fun t (p, v) => t.setIfInBounds p v) a.tmps, defers := [] } W)
    (hbody : ∀ l k a₁ W, k < N → Ax k a₁ W → w.heap.size < l → l < W.heap.size → body.wpIn (Fence.wide.inRound l) 1 Tryz.prog (roundOut w.heap.size (I (k + 1)) Ix W) a₁ W)
    (hdone : ∀ D W, I N W → w.heap.size ≤ D → W.heap[D]? = some (.deferred (some [])) → Q .normal { a with defers := { target := .collected D, args := #[] } :: a.defers } W)
    (hstop : ∀ D c W, Ix c W → w.heap.size ≤ D → W.heap[D]? = some (.deferred (some [])) → c.wp Tryz.prog Q { a with defers := { target := .collected D, args := #[] } :: a.defers } W) :
    (Code.rangeFunc g ps assign body).wp Tryz.prog Q a w := by
  rw [← wpIn_wide (n := 2)]
  refine wpIn_rangeFunc ?_
  intro fn hfn
  have hro : Fence.wide.round = none := rfl
  rw [hro]
  obtain ⟨rec, hrec⟩ : ∃ rec : LoopState → Option Code → Loop, rec = fun st pe => { state := st, pending := pe, fn, tmps := a.tmps, params := ps, assign, body, defers := w.heap.size } := ⟨_, rfl⟩
  obtain ⟨W1, hW1⟩ : ∃ W1, (w.alloc (.deferred (some []))).alloc (.loop (rec .ready none)) = W1 := ⟨_, rfl⟩
  have hL1 : W1.heap[w.heap.size + 1]? = some (.loop (rec .ready none)) := by
    rw [← hW1]; have := World.alloc_heap_new (w.alloc (.deferred (some []))) (.loop (rec .ready none)); rwa [World.size_alloc] at this
  have hK1 : W1.heap[w.heap.size]? = some (.deferred (some [])) := by
    rw [← hW1]; exact (Below.heap_alloc _ _ _ (by simp)).trans (World.alloc_heap_new w _)
  have hb1 : Below w.heap.size w W1 := by rw [← hW1]; exact ((Below.refl _ w).alloc (Nat.le_refl _) _).alloc (by simp) _
  have hI1 : I 0 W1 := (hI 0).below h0 hb1
  have keepL : ∀ {W W' : World} {k : Nat} {o : Obj}, Below W.heap.size W W' → W.heap[k]? = some o → W'.heap[k]? = some o := fun hb ho => (hb.block _ (Array.getElem?_eq_some_iff.1 ho).1).trans ho
  refine ⟨w.heap.size + 1, [{ target := .collected w.heap.size, args := #[] }], W1, { target := .fn (.func gf) lb, args := #[.func (.yield (w.heap.size + 1)) #[] #[]] }, W1, gf,
    #[.func (.yield (w.heap.size + 1)) #[] #[]] ++ lb, W1, ?_, ?_, ?_, ?_, fun _ => by omega, ?_⟩
  · rw [← hW1, hrec]; exact run_enterLoop_outer _ _ _ _ _
  · simp only [resolve, hg]
    simp [go_sem]
  · intro f' hf'; trivial
  · simp [invoke, go_sem, eg _ _]
  · refine callsIn_wide.2 ?_
    refine (hit (w.heap.size + 1)
      (fun k W => I k W ∧ W.heap[w.heap.size + 1]? = some (.loop (rec .ready none)) ∧ W.heap[w.heap.size]? = some (.deferred (some [])))
      (fun W => ∃ c, Ix c W ∧ W.heap[w.heap.size + 1]? = some (.loop (rec .done (some c))) ∧ W.heap[w.heap.size]? = some (.deferred (some [])))
      W1 (fun k W W' h hb => ⟨(hI k).below h.1 hb, keepL hb h.2.1, keepL hb h.2.2⟩)
      (fun W W' ⟨c, h⟩ hb => ⟨c, (hIx c).below h.1 hb, keepL hb h.2.1, keepL hb h.2.2⟩) (fun k W h => hD k W h.1) ?_ ⟨hI1, hL1, hK1⟩).mono ?_
    · rintro k W xs hk ⟨hi, hl, hkk⟩ henc
      have hlt : w.heap.size + 1 < W.heap.size := (Array.getElem?_eq_some_iff.1 hl).1
      have hy := run_yield (P := Tryz.prog) (args := xs) hl (by rw [hrec]; exact hps k W xs hk hi henc)
      rw [hrec] at hy
      refine ⟨fn, _, assign, body, hy, roundIn_of_wpIn hfn (wpIn_mono (hassign _ k xs W hk hi henc (by omega) hlt) ?_)⟩
      intro e a₁ W2 hp
      cases e with
      | normal =>
        obtain ⟨hkf, hax⟩ := hp
        have hl2 := hkf.same _ _ (by omega) hl rfl
        have hk2 := hkf.same _ _ (Nat.le_refl _) hkk rfl
        refine ⟨_, run_beginRound hl2 (by rw [hrec]), ?_⟩
        have hlt2 : w.heap.size + 1 < W2.heap.size := (Array.getElem?_eq_some_iff.1 hl2).1
        have hl3 : (W2.putObj (w.heap.size + 1) (.loop { rec .ready none with state := .busy })).heap[w.heap.size + 1]? = some (.loop { rec .ready none with state := .busy }) := World.putObj_heap_same hlt2
        have hk3 : (W2.putObj (w.heap.size + 1) (.loop { rec .ready none with state := .busy })).heap[w.heap.size]? = some (.deferred (some [])) := (World.putObj_heap_other (by omega)).trans hk2
        refine wpIn_mono (hbody _ k a₁ _ hk ((hAx k a₁).putObj _ hax (by omega) hl2 rfl) (by omega) (Array.getElem?_eq_some_iff.1 hl3).1) ?_
        have fin : ∀ (jump : Option Code) (W3 : World), KeepsFrom w.heap.size (W2.putObj (w.heap.size + 1) (.loop { rec .ready none with state := .busy })) W3 →
            (Instr.endRound (w.heap.size + 1) jump).run Tryz.prog W3 = .ok (.bool jump.isNone) (W3.putObj (w.heap.size + 1) (.loop (rec (if jump.isNone then .ready else .done) jump))) ∧
            W3.heap[w.heap.size + 1]? = some (.loop { rec .ready none with state := .busy }) ∧
            (W3.putObj (w.heap.size + 1) (.loop (rec (if jump.isNone then .ready else .done) jump))).heap[w.heap.size + 1]? = some (.loop (rec (if jump.isNone then .ready else .done) jump)) ∧
            (W3.putObj (w.heap.size + 1) (.loop (rec (if jump.isNone then .ready else .done) jump))).heap[w.heap.size]? = some (.deferred (some [])) := fun jump W3 hk4 => by
          have hl4 := hk4.same _ _ (by omega) hl3 rfl
          have := run_endRound (P := Tryz.prog) jump hl4
          rw [hrec] at this ⊢
          exact ⟨this, by rw [hrec] at hl4; exact hl4, World.putObj_heap_same (Array.getElem?_eq_some_iff.1 hl4).1, (World.putObj_heap_other (by omega)).trans (hk4.same _ _ (Nat.le_refl _) hk3 rfl)⟩
        rintro e a3 W3 hp
        cases e with
        | normal =>
          obtain ⟨hk4, hi3⟩ := hp
          obtain ⟨hr, hl4, hl5, hk5⟩ := fin none W3 hk4
          exact ⟨_, _, hr, .inl ⟨rfl, (hI _).putObj _ hi3 (by omega) hl4 rfl, hl5, hk5⟩⟩
        | ret =>
          obtain ⟨hk4, hi3⟩ := hp
          obtain ⟨hr, hl4, hl5, hk5⟩ := fin (some .ret) W3 hk4
          exact ⟨_, _, hr, .inr ⟨rfl, .ret, (hIx _).putObj _ hi3 (by omega) hl4 rfl, hl5, hk5⟩⟩
        | exit id =>
          obtain ⟨hk4, hi3⟩ := hp
          obtain ⟨hr, hl4, hl5, hk5⟩ := fin (some (.exit id)) W3 hk4
          exact ⟨_, _, hr, .inr ⟨rfl, .exit id, (hIx _).putObj _ hi3 (by omega) hl4 rfl, hl5, hk5⟩⟩
        | goto t =>
          obtain ⟨hk4, hi3⟩ := hp
          obtain ⟨hr, hl4, hl5, hk5⟩ := fin (some (.goto t)) W3 hk4
          exact ⟨_, _, hr, .inr ⟨rfl, .goto t, (hIx _).putObj _ hi3 (by omega) hl4 rfl, hl5, hk5⟩⟩
        | panic ch => exact hp.elim
        | outgrown => exact hp.elim
      | ret => exact hp.elim
      | exit id => exact hp.elim
      | goto t => exact hp.elim
      | panic ch => exact hp.elim
      | outgrown => exact hp.elim
    · rintro e W2 ⟨⟨v, rfl⟩, (⟨hi, hl, hkk⟩ | ⟨c, hi, hl, hkk⟩)⟩
      · exact ⟨none, _, by have := run_endLoop (P := Tryz.prog) hl (by rw [hrec]; simp); rw [hrec] at this; exact this, hdone _ _ ((hI _).putObj _ hi (by omega) hl rfl) (Nat.le_refl _) ((World.putObj_heap_other (by omega)).trans hkk)⟩
      · exact ⟨some c, _, by have := run_endLoop (P := Tryz.prog) hl (by rw [hrec]; simp); rw [hrec] at this; exact this, wpIn_wide.2 (hstop _ c _ ((hIx c).putObj _ hi (by omega) hl rfl) (Nat.le_refl _) ((World.putObj_heap_other (by omega)).trans hkk))⟩

/-- the frame of a round: the loop's parameters, then the assignments to its variables -/
abbrev roundAct (T : Array Value) (ps : Array Tmp) (sl : List (Tmp × Nat)) (xs : Array Value) : Act :=
  { tmps := sl.foldl (fun t (p, i) => t.setIfInBounds p (xs.getD i undef)) ((ps.zip xs).foldl (fun t (p, v) => t.setIfInBounds p v) T), defers := [] }
theorem wp_rangeS {g : Operand} {ps : Array Tmp} {assign body : Code} {Q : Exit → Act → World → Prop} {a : Act} {w : World} {gf : Nat} {lb : Array Value}
    (hg : a.eval g = .func (.func gf) #[] lb) (eg : Ent gf) {D : World → Prop} {Enc : Nat → World → Array Value → Prop} {N : Nat} (hit : Iter gf lb D Enc N)
    (sl : List (Tmp × Nat)) (I : Nat → World → Prop) (Ix : Code → World → Prop)
    (hI : ∀ k, Stab w.heap.size (I k)) (hIx : ∀ c, Stab w.heap.size (Ix c)) (hE : ∀ k xs, Stab w.heap.size (fun W => Enc k W xs)) (hD : ∀ k W, I k W → D W) (h0 : I 0 w)
    (hps : ∀ k W xs, Enc k W xs → xs.size = ps.size)
    (hassign : ∀ l k xs W (K : Act → World → Prop), Enc k W xs → K (roundAct a.tmps ps sl xs) W → assign.wpIn (Fence.wide.inRound l) 1 Tryz.prog (Exit.then K (fun _ _ _ => False)) { tmps := (ps.zip xs).foldl (fun t (p, v) => t.setIfInBounds p v) a.tmps, defers := [] } W)
    (hbody : ∀ l k xs W, k < N → I k W → Enc k W xs → w.heap.size < l → l < W.heap.size → body.wpIn (Fence.wide.inRound l) 1 Tryz.prog (roundOut w.heap.size (I (k + 1)) Ix W) (roundAct a.tmps ps sl xs) W)
    (hdone : ∀ D W, I N W → w.heap.size ≤ D → W.heap[D]? = some (.deferred (some [])) → Q .normal { a with defers := { target := .collected D, args := #[] } :: a.defers } W)
    (hstop : ∀ D c W, Ix c W → w.heap.size ≤ D → W.heap[D]? = some (.deferred (some [])) → c.wp Tryz.prog Q { a with defers := { target := .collected D, args := #[] } :: a.defers } W) :
    (Code.rangeFunc g ps assign body).wp Tryz.prog Q a w := by
  refine wp_range hg eg hit I Ix (fun k a₁ W => I k W ∧ ∃ xs, Enc k W xs ∧ a₁ = roundAct a.tmps ps sl xs) hI hIx (fun k a₁ => (hI k).and (Stab.ex fun xs => (hE k xs).and (Stab.pure _))) hD h0
    (fun k W xs _ _ h => hps k W xs h) (fun l k xs W hk hi he _ _ => ?_) (fun l k a₁ W hk hax h1 h2 => ?_) hdone hstop
  · refine wpIn_mono (hassign l k xs W (fun a₁ W' => a₁ = roundAct a.tmps ps sl xs ∧ W' = W) he ⟨rfl, rfl⟩) ?_
    intro e a₁ W' hp
    cases e with
    | normal => obtain ⟨rfl, rfl⟩ := hp; exact ⟨KeepsFrom.refl _ _, hi, xs, he, rfl⟩
    | ret => exact hp.elim
    | exit id => exact hp.elim
    | goto t => exact hp.elim
    | panic ch => exact hp.elim
    | outgrown => exact hp.elim
  · obtain ⟨hi, xs, he, rfl⟩ := hax
    exact hbody l k xs W hk hi he h1 h2
theorem Stab.sl {α : Type} {f : α → List Value} {B size : Nat} (A : Option Addr) (l : List α) : Stab B (fun W => Sl f size W W.heap.size A l) := fun W W' row hs hg hr => by
  have h := Stab.reads (B := B) (b := W.heap.size) (size := size) (n := l.length) A (flat f l) W W' row hs hg hr
  exact Reads.more h hg.size
/-- a world that has only grown keeps every record -/
theorem keepsFrom_below {B : Nat} {W W' : World} (h : Below W.heap.size W W') : KeepsFrom B W W' := ⟨h.size, fun k o _ hk _ => (h.block k (Array.getElem?_eq_some_iff.1 hk).1).trans hk⟩
theorem fold2 (p q : Tmp) (x y : Value) (T : Array Value) : ((#[p, q] : Array Tmp).zip #[x, y]).foldl (fun t (p, v) => t.setIfInBounds p v) T = (T.setIfInBounds p x).setIfInBounds q y := by simp
theorem fold1 (p : Tmp) (x : Value) (T : Array Value) : ((#[p] : Array Tmp).zip #[x]).foldl (fun t (p, v) => t.setIfInBounds p v) T = T.setIfInBounds p x := by simp
theorem round2 (T : Array Value) (p q r s : Tmp) (x y : Value) : roundAct T #[p, q] [(r, 0), (s, 1)] #[x, y] = { tmps := (((T.setIfInBounds p x).setIfInBounds q y).setIfInBounds r x).setIfInBounds s y, defers := [] } := by simp [roundAct]
theorem round21 (T : Array Value) (p q s : Tmp) (x y : Value) : roundAct T #[p, q] [(s, 1)] #[x, y] = { tmps := ((T.setIfInBounds p x).setIfInBounds q y).setIfInBounds s y, defers := [] } := by simp [roundAct]
/-- a function whose body ranges over functions -/
theorem calls_marks {f : FuncId} {fn : Func} {c : Code} {args : Array Value} {w : World} {R : Ending → World → Prop} (hf : Tryz.prog.funcs[f]? = some fn) (hb : fn.body = some c)
    (h : c.wp Tryz.prog (bodyPostM Fence.wide 2 Tryz.prog fn R) { tmps := args ++ Array.replicate (fn.ntmps - args.size) undef, defers := [] } w) : Calls Tryz.prog f args w R :=
  callsIn_wide.1 (callsIn_of_wp_marks hf hb trivial (wpIn_wide.2 h))
theorem marks_ret0 {fn : Func} {R : Ending → World → Prop} {a : Act} {w : World} {v : Value} (hd : a.defers = []) (hr : (results fn a.tmps).run Tryz.prog w = .ok v w) (hR : R (.returned v) w) : bodyPostM Fence.wide 2 Tryz.prog fn R .ret a w := by
  show LeavesInM _ _ _ _ _ _ a.defers _ _
  rw [hd]; exact ⟨v, hr, hR⟩
theorem marks_ret1 {fn : Func} {R : Ending → World → Prop} {a : Act} {w : World} {v : Value} {D : Nat} (hd : a.defers = [{ target := .collected D, args := #[] }]) (hK : w.heap[D]? = some (.deferred (some [])))
    (hr : (results fn a.tmps).run Tryz.prog (w.putObj D (.deferred none)) = .ok v (w.putObj D (.deferred none))) (hR : R (.returned v) (w.putObj D (.deferred none))) : bodyPostM Fence.wide 2 Tryz.prog fn R .ret a w := by
  show LeavesInM _ _ _ _ _ _ a.defers _ _
  rw [hd]; exact ⟨by simp, .inl ⟨_, _, rfl, run_takeDeferred hK, v, hr, hR⟩⟩
theorem Blk.putObj {W : World} {b D : Nat} {cs : Array Value} {t : TypeId} {o o' : Obj} (h : Blk W b cs t) (hD : W.heap[D]? = some o) (ho : o.isCells = false) : Blk (W.putObj D o') b cs t := by
  refine (World.putObj_heap_other fun e => ?_).trans h
  subst e
  unfold Blk at h
  rw [h] at hD; cases hD; cases ho
theorem below_putObj {B D : Nat} {a W : World} {o : Obj} (h : Below B a W) (hD : B ≤ D) (hW : W.heap[D]? = some o) (o' : Obj) : Below B a (W.putObj D o') :=
  h.grown (grownBy_putObj' W D o') (by have := (Array.getElem?_eq_some_iff.1 hW).1; omega) (fun k e => by cases e; exact hD)
/-! Within a round: a region that draws its order, by the plain quiet walk. -/
theorem Oper.wpIn_of_quietR {P : Program} {l n : Nat} {C : World → Prop} {o : Oper} {a : Act} {K : Act → Prop} {K' : Act → World → Prop} {Q' : Exit → Act → World → Prop} {w : World} (hnd : ∀ c, o.op ≠ .defer c)
    (hw : C w) (h : ∀ a w', C w' → K a → K' a w') (hh : o.quiet P a C K) : o.wpIn (Fence.wide.inRound l) n P a w K' Q' := by
  obtain ⟨v, h1, h2⟩ := hh
  have hq := h1 w hw
  unfold Oper.quietAt at hq
  unfold Oper.wpIn
  refine ⟨fun _ _ => trivial, ?_⟩
  rw [Oper.semAt_eq _ _ _ hnd]
  cases hr : (execOp a.eval o).run P w with
  | halt x w' => rw [hr] at hq; exact hq.elim
  | ok x w' =>
    rw [hr] at hq
    cases x <;> first
      | exact hq.elim
      | (obtain ⟨rfl, rfl⟩ := hq; exact h _ _ hw h2)
      | (obtain ⟨rfl, hc⟩ := hq
         refine ⟨(fun hd => by cases hd), CallsIn.inRound l ((callsIn_wide.2 hc).mono ?_)⟩
         rintro e w'' ⟨rfl, hcw⟩
         exact h _ _ hcw h2)
def noDefer (ops : Array Oper) : Bool := ops.all fun o => match o.op with | .defer _ => false | _ => true
theorem noDefer_spec {ops : Array Oper} (h : noDefer ops = true) {i : Nat} {o : Oper} (ho : ops[i]? = some o) : ∀ c, o.op ≠ .defer c := by
  intro c hc
  obtain ⟨hi, rfl⟩ := Array.getElem?_eq_some_iff.1 ho
  have := Array.all_eq_true.1 h i hi
  rw [hc] at this; cases this
theorem wpAnyIn_of_quietR {P : Program} {l n : Nat} {md : Region.Mode} {ops : Array Oper} {C : World → Prop} {Q : Act → Prop} {Q' : Exit → Act → World → Prop} (hnd : noDefer ops = true) (hQ : ∀ a w, C w → Q a → Q' .normal a w) :
    ∀ (fuel : Nat) (listed : Array Bool) (a : Act) (w : World), C w → wpAnyQ P md ops C Q fuel listed a → wpAnyIn (Fence.wide.inRound l) n P md ops Q' fuel listed a w
  | 0, _, a, w, hC, h => ⟨h.1, hQ a w hC h.2⟩
  | fuel + 1, listed, a, w, hC, h => ⟨fun hr => hQ a w hC (h.1 hr), fun i hi => by
      have hq := h.2 i hi
      have ih := wpAnyIn_of_quietR (P := P) (l := l) (n := n) (md := md) hnd hQ fuel (listed.setIfInBounds i true)
      unfold qOp at hq
      unfold wpOpIn
      cases ho : ops[i]? with
      | none => simp only [ho] at hq ⊢; exact ih a w hC hq
      | some o =>
        simp only [ho] at hq ⊢
        split
        · rename_i hw; simp only [hw, if_true] at hq
          exact Oper.wpIn_of_quietR (noDefer_spec hnd ho) hC (fun a' w' hC' hk => ih a' w' hC' hk) hq
        · rename_i hw; simp only [hw] at hq
          exact ⟨fun _ _ => trivial, ih _ w hC hq⟩⟩
theorem wpIn_region_ext {P : Program} {lp n : Nat} {id : Nat} {Q : Exit → Act → World → Prop} {a : Act} {w : World} {l : List Oper} (hm : P.follows .mixedOrders = true) (hB : Region.lexB .any l.toArray = true) (hnd : noDefer l.toArray = true)
    (h : wpQuiet P l.toArray (fun w' => ∃ E, w' = World.ext w E) (fun a' => ∀ w', (∃ E, w' = World.ext w E) → Q .normal a' w') l a) : (Code.region id l.toArray true).wpIn (Fence.wide.inRound lp) n P Q a w := by
  simp only [Region.lexB, Bool.and_eq_true] at hB
  refine wpIn_region_any hm (wpAnyIn_of_quietR (C := fun w' => ∃ E, w' = World.ext w E) (Q := fun a' => ∀ w', (∃ E, w' = World.ext w E) → Q .normal a' w') hnd (fun _ w' hw' h => h w' hw') _ _ _ _ (ext_of ((Below.refl _ w).drew)) ?_)
  have := wpAnyQ_lex (P := P) (C := fun w' => ∃ E, w' = World.ext w E) (md := .any) hB.1 l.toArray.toList 0 (Array.replicate l.toArray.size false) a (by simp) (by simpa using hB.2) (by simpa using h)
  simpa using this
end Go.Proofs.YtfbnllmmoaialaaGreat
namespace Go.Proofs.YtfbnllmmoaialaaGreat
open Go.RowKit

section
variable {P : Program} {ops : Array Oper} {md : Region.Mode} {C : World → Prop}
def wpAnyQL (P : Program) (md : Region.Mode) (ops : Array Oper) (C : World → Prop) (n : Nat) (L : Array Bool → Act → Prop) : Nat → Array Bool → Act → Prop
  | 0, listed, a => L listed a
  | f + 1, listed, a =>
    Region.ready md ops listed ≠ [] ∧ ∀ i ∈ Region.ready md ops listed, i < n ∧ qOp P ops C i (wpAnyQL P md ops C n L f (listed.setIfInBounds i true)) a
theorem wpAny_of_headQ {n g : Nat} {L : Array Bool → Act → Prop} {Q' : Exit → Act → World → Prop} (hL : ∀ listed a w, C w → L listed a → wpAny P md ops Q' g listed a w) :
    ∀ (f : Nat) (listed : Array Bool) (a : Act) (w : World), C w → wpAnyQL P md ops C n L f listed a → wpAny P md ops Q' (f + g) listed a w
  | 0, listed, a, w, hC, h => by rw [Nat.zero_add]; exact hL _ _ _ hC h
  | f + 1, listed, a, w, hC, h => by
    rw [show f + 1 + g = (f + g) + 1 by omega]
    exact ⟨fun h0 => absurd h0 h.1, fun i hi => wpOp_of_qOp hC (fun a' w' hw' h' => wpAny_of_headQ hL f _ a' w' hw' h') (h.2 i hi).2⟩
theorem wpAnyQL_first {n i : Nat} {oi : Oper} {v : Value} {L : Array Bool → Act → Prop} (hi : ops[i]? = some oi) (hsel : ∀ (j : Nat) (o : Oper) cs b, ops[j]? = some o → o.op ≠ .select cs b)
    (hs : Region.sinkB md ops n = true) (hc : Region.chainB md ops n = true) (hn : n < ops.size) (hin : i < n)
    (hdone : ∀ listed a, L listed a → ∀ j ∈ Region.ready md ops listed, n ≤ j) :
    ∀ (f : Nat) (listed : Array Bool) (a : Act), HeadInv md ops n listed →
      (∀ j oj, ops[j]? = some oj → j ≠ i → listed.getD j true = false → (∀ e ∈ oj.after, Region.binds md e = true → e.on ≠ i) → oi.apart ops oj = true) →
      i ∈ Region.ready md ops listed → YieldsIn P ops C oi v a →
      wpAnyQL P md ops C n L f (listed.setIfInBounds i true) (a.put oi.dst v) → wpAnyQL P md ops C n L (f + 1) listed a := by
  intro f
  induction f with
  | zero =>
    intro listed a inv _ hr hy H
    have hun := (mem_ready.1 hr).1
    refine ⟨fun h => (by rw [h] at hr; cases hr), fun j hj => ?_⟩
    have hjn : j < n := by
      rcases Nat.lt_or_ge j n with h | h
      · exact h
      · exact absurd hj (tail_waits hs hc hn inv _ i rfl hin hun j h)
    refine ⟨hjn, ?_⟩
    by_cases hji : j = i
    · subst hji; exact hy.qOp hi H
    · have := hdone _ _ H j (ready_mono hj hji)
      omega
  | succ f ih =>
    intro listed a inv hfree hr hy H
    have hun := (mem_ready.1 hr).1
    refine ⟨fun h => (by rw [h] at hr; cases hr), fun j hj => ?_⟩
    have hjn : j < n := by
      rcases Nat.lt_or_ge j n with h | h
      · exact h
      · exact absurd hj (tail_waits hs hc hn inv _ i rfl hin hun j h)
    refine ⟨hjn, ?_⟩
    by_cases hji : j = i
    · subst hji; exact hy.qOp hi H
    · have h1 := (H.2 j (ready_mono hj hji)).2
      obtain ⟨hjun, oj, hoj, hall⟩ := mem_ready.1 hj
      have hnot : ∀ e ∈ oj.after, Region.binds md e = true → e.on ≠ i := fun e he hb heq => by
        have h1 := hall e he hb
        rw [heq, getD_both hun] at h1
        cases h1
      have h2 := qOp_put hoj (hfree j oj hoj hji hjun hnot) (fun cs b => hsel i oi cs b hi) (fun cs b => hsel j oj cs b hoj) hy h1
      have hfree' : ∀ k ok, ops[k]? = some ok → k ≠ i → (listed.setIfInBounds j true).getD k true = false →
          (∀ e ∈ ok.after, Region.binds md e = true → e.on ≠ i) → oi.apart ops ok = true := fun k ok hk hki hun hno => by
        refine hfree k ok hk hki ?_ hno
        by_cases hjk : j = k
        · subst hjk; exact hjun
        · rw [getD_set_ne true hjk] at hun; exact hun
      refine qOp_mono (fun a' h3 => ih (listed.setIfInBounds j true) a' (inv.set hj hjn) hfree' (ready_mono hr (Ne.symm hji)) h3.1 ?_) h2
      rw [Array.setIfInBounds_comm _ _ hji]
      exact h3.2
theorem wpAnyQL_lex {n g : Nat} {Lq : Act → Prop} (hsel : Region.noSelect ops = true) (hs : Region.sinkB md ops n = true) (hc : Region.chainB md ops n = true) (hn : n < ops.size) :
    ∀ (l : List Oper) (k : Nat) (listed : Array Bool) (a : Act), (∀ j, j < l.length → l[j]? = ops[k + j]?) → k + l.length = n → HeadInv md ops n listed →
    Region.lexHead md ops g l.length k listed = true → wpQuiet P ops C Lq l a →
    wpAnyQL P md ops C n (fun listed' a' => Region.seqB md ops g n listed' = true ∧ Lq a') l.length listed a
  | [], k, listed, a, _, hk, _, hB, h => by
    have : k = n := by simpa using hk
    subst this
    exact ⟨by simpa [Region.lexHead] using hB, h⟩
  | o :: l, k, listed, a, hl, hk, inv, hB, h => by
    have h0 : ops[k]? = some o := by simpa using (hl 0 (by simp)).symm
    simp only [List.length_cons, Region.lexHead, Bool.and_eq_true] at hB
    obtain ⟨⟨hr, hf⟩, hB'⟩ := hB
    have hkn : k < n := by simp only [List.length_cons] at hk; omega
    have hr' : k ∈ Region.ready md ops listed := by simpa using hr
    have hst : qOp P ops C k (wpQuiet P ops C Lq l) a := by unfold qOp; simp only [h0]; exact h
    obtain ⟨v, hy, hK⟩ := yieldsIn_of_qOp h0 hst
    exact wpAnyQL_first h0 (Region.noSelect_spec hsel) hs hc hn hkn (fun listed' a' hL => seqB_ready hL.1) l.length listed a inv (Region.free_spec h0 hf) hr' hy
      (wpAnyQL_lex hsel hs hc hn l (k + 1) _ _ (fun j hj => by have := hl (j + 1) (by simp; omega); simpa [Nat.add_assoc, Nat.add_comm 1 j] using this) (by simp only [List.length_cons] at hk; omega) (inv.set hr' hkn) hB' hK)
theorem tail_head {l : List Oper} {a : Act} {Lq : Act → Prop} (n : Nat) (hB : Region.lexTailB .any l.toArray n = true) (h : wpQuiet P l.toArray C Lq (l.take n) a) :
    n + (l.toArray.size - n) = l.toArray.size ∧ (l.drop n).length = l.toArray.size - n ∧
    wpAnyQL P .any l.toArray C n (fun listed' a' => Region.seqB .any l.toArray (l.toArray.size - n) n listed' = true ∧ Lq a') n (Array.replicate l.toArray.size false) a := by
  simp only [Region.lexTailB, Bool.and_eq_true, decide_eq_true_eq] at hB
  obtain ⟨⟨⟨⟨hsel, hn⟩, hs⟩, hc⟩, hlex⟩ := hB
  have hn' : n < l.length := by simpa using hn
  have htl : (l.take n).length = n := by simp; omega
  have hdl : (l.drop n).length = l.toArray.size - n := by simp
  have inv0 : HeadInv .any l.toArray n (Array.replicate l.toArray.size false) :=
    ⟨by simp, fun j oj _ hl => (by rw [getD_replicate_false] at hl; cases hl), fun t _ ht => getD_in (by simpa using ht) (getD_replicate_false _ _)⟩
  have H := wpAnyQL_lex (md := .any) (g := l.toArray.size - n) hsel hs hc hn (l.take n) 0 _ a (fun j hj => by
    have hj' : j < n := by rw [htl] at hj; exact hj
    simp [hj']) (by simpa using htl) inv0 (by rw [htl]; exact hlex) h
  rw [htl] at H
  exact ⟨by omega, hdl, H⟩
end
theorem wp_region_tail {P : Program} {id : Nat} {Q : Exit → Act → World → Prop} {a : Act} {w : World} {l : List Oper} (n : Nat) (hm : P.follows .mixedOrders = true) (hB : Region.lexTailB .any l.toArray n = true)
    (h : wpQuiet P l.toArray (fun w' => ∃ E, w' = World.ext w E) (fun a' => ∀ w', (∃ E, w' = World.ext w E) → wpList P l.toArray Q (l.drop n) a' w') (l.take n) a) : (Code.region id l.toArray true).wp P Q a w := by
  obtain ⟨hsz, hdl, H⟩ := tail_head n hB h
  refine wp_region_any hm ?_
  have := wpAny_of_headQ (Q' := Q) (g := l.toArray.size - n) (fun listed a' w' hw' hL => by
    have := wpAny_of_seq (md := .any) (Q' := Q) (l.drop n) n listed a' w' (fun j => by simp [List.getElem?_drop]) (by rw [hdl]; exact hL.1) (hL.2 w' hw')
    rwa [hdl] at this) _ _ _ _ (ext_of ((Below.refl _ w).drew)) H
  rw [hsz] at this
  exact this
/-! within a round -/
theorem wpAnyIn_of_headQ {P : Program} {lp m : Nat} {md : Region.Mode} {ops : Array Oper} {C : World → Prop} (hnd : noDefer ops = true) {n g : Nat} {L : Array Bool → Act → Prop} {Q' : Exit → Act → World → Prop}
    (hL : ∀ listed a w, C w → L listed a → wpAnyIn (Fence.wide.inRound lp) m P md ops Q' g listed a w) :
    ∀ (f : Nat) (listed : Array Bool) (a : Act) (w : World), C w → wpAnyQL P md ops C n L f listed a → wpAnyIn (Fence.wide.inRound lp) m P md ops Q' (f + g) listed a w
  | 0, listed, a, w, hC, h => by rw [Nat.zero_add]; exact hL _ _ _ hC h
  | f + 1, listed, a, w, hC, h => by
    rw [show f + 1 + g = (f + g) + 1 by omega]
    refine ⟨fun h0 => absurd h0 h.1, fun i hi => ?_⟩
    have hq := (h.2 i hi).2
    have ih := wpAnyIn_of_headQ (P := P) (lp := lp) (m := m) (md := md) (n := n) hnd hL f (listed.setIfInBounds i true)
    unfold qOp at hq
    unfold wpOpIn
    cases ho : ops[i]? with
    | none => simp only [ho] at hq ⊢; exact ih a w hC hq
    | some o =>
      simp only [ho] at hq ⊢
      split
      · rename_i hw; simp only [hw, if_true] at hq
        exact Oper.wpIn_of_quietR (noDefer_spec hnd ho) hC (fun a' w' hC' hk => ih a' w' hC' hk) hq
      · rename_i hw; simp only [hw] at hq
        exact ⟨fun _ _ => trivial, ih _ w hC hq⟩
theorem wpAnyIn_of_seq {F : Fence} {m : Nat} {P : Program} {md : Region.Mode} {ops : Array Oper} {Q' : Exit → Act → World → Prop} : ∀ (l : List Oper) (k : Nat) (listed : Array Bool) (a : Act) (w : World), (∀ j, l[j]? = ops[k + j]?) →
    Region.seqB md ops l.length k listed = true → wpListIn F m P ops Q' l a w → wpAnyIn F m P md ops Q' l.length listed a w
  | [], _, _, _, _, _, hB, h => ⟨by simpa [Region.seqB] using hB, h⟩
  | o :: l, k, listed, a, w, hl, hB, h => by
    have h0 : ops[k]? = some o := by simpa using (hl 0).symm
    simp only [List.length_cons, Region.seqB, Bool.and_eq_true, decide_eq_true_eq] at hB
    refine ⟨fun h1 => (by rw [hB.1] at h1; cases h1), fun i hi => ?_⟩
    rw [hB.1] at hi
    have hik : i = k := by simpa using hi
    subst hik
    have hw : wpOpIn F m P ops Q' i (wpListIn F m P ops Q' l) a w := by unfold wpOpIn; simp only [h0]; exact h
    exact wpOpIn_mono (fun a' w' h' => wpAnyIn_of_seq l (i + 1) _ a' w' (fun j => by have := hl (j + 1); simpa [Nat.add_assoc, Nat.add_comm 1 j] using this) hB.2 h') hw
theorem wpIn_region_tail {P : Program} {lp m : Nat} {id : Nat} {Q : Exit → Act → World → Prop} {a : Act} {w : World} {l : List Oper} (n : Nat) (hm : P.follows .mixedOrders = true) (hB : Region.lexTailB .any l.toArray n = true) (hnd : noDefer l.toArray = true)
    (h : wpQuiet P l.toArray (fun w' => ∃ E, w' = World.ext w E) (fun a' => ∀ w', (∃ E, w' = World.ext w E) → wpListIn (Fence.wide.inRound lp) m P l.toArray Q (l.drop n) a' w') (l.take n) a) : (Code.region id l.toArray true).wpIn (Fence.wide.inRound lp) m P Q a w := by
  obtain ⟨hsz, hdl, H⟩ := tail_head n hB h
  refine wpIn_region_any hm ?_
  have := wpAnyIn_of_headQ (Q' := Q) (g := l.toArray.size - n) hnd (fun listed a' w' hw' hL => by
    have := wpAnyIn_of_seq (md := .any) (Q' := Q) (l.drop n) n listed a' w' (fun j => by simp [List.getElem?_drop]) (by rw [hdl]; exact hL.1) (hL.2 w' hw')
    rwa [hdl] at this) _ _ _ _ (ext_of ((Below.refl _ w).drew)) H
  rw [hsz] at this
  exact this
end Go.Proofs.YtfbnllmmoaialaaGreat

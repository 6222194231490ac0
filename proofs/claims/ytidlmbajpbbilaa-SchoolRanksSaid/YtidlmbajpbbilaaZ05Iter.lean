/- Ranges over functions: a contract for iterators that hand over memory, one law for the caller, and drawn regions within a round. -/
import Derived.Test.YtidlmbajpbbilaaZ00Mem
import Derived.RangeFuncNested
import Derived.RangeFuncBound
import Derived.RangeFuncCalls
import Derived.RangeFuncLeaves
import Derived.OwnWalkIn
import Derived.TacticsInMore
import Derived.LoopNIn
import Derived.LoopIn
import Derived.OrdersIn
import Derived.Test.YtidlmbajpbbilaaZ04ScK
namespace Go.Proofs.Ytidlmbajpbbilaa
open Go.RowKit

/-- what holds of a world holds when a block that is no cells, from B on, has turned, or blocks have come -/
def Stab (B : Nat) (I : World → Prop) : Prop :=
  ∀ W W' row, I W → W.grownBy W' row → (∀ r, row = some r → B ≤ r ∧ ∃ o : Obj, W.heap[r]? = some o ∧ o.isCells = false) → I W'
theorem Stab.putObj {B : Nat} {I : World → Prop} (h : Stab B I) {W : World} {l : Nat} {o : Obj} (o' : Obj) (hs : I W) (hB : B ≤ l) (hl : W.heap[l]? = some o) (ho : o.isCells = false) : I (W.putObj l o') :=
  h W _ (some l) hs (grownBy_putObj' W l o') (fun r e => by cases e; exact ⟨hB, o, hl, ho⟩)
theorem Stab.below {B : Nat} {I : World → Prop} (h : Stab B I) {W W' : World} (hs : I W) (hb : Below W.heap.size W W') : I W' :=
  h W W' none hs ⟨hb.os, hb.tape, hb.output, hb.size, fun k hk _ => hb.block k hk⟩ (fun r e => by cases e)
theorem Stab.and {B : Nat} {I I' : World → Prop} (h : Stab B I) (h' : Stab B I') : Stab B (fun W => I W ∧ I' W) := fun W W' row hs hg hr => ⟨h W W' row hs.1 hg hr, h' W W' row hs.2 hg hr⟩
theorem Stab.pure {B : Nat} (p : Prop) : Stab B (fun _ => p) := fun _ _ _ h _ _ => h
theorem Stab.ex {B : Nat} {α : Type} {I : α → World → Prop} (h : ∀ x, Stab B (I x)) : Stab B (fun W => ∃ x, I x W) := fun W W' row ⟨x, hx⟩ hg hr => ⟨x, h x W W' row hx hg hr⟩
theorem Stab.low {B b : Nat} (hb : b ≤ B) (w : World) (hw : b ≤ w.heap.size) : Stab B (fun W => Below b w W) := fun _W _W' _row hs hg hr =>
  hs.grown hg (Nat.le_trans hw hs.size) (fun k e => Nat.le_trans hb (hr k e).1)
theorem Stab.cell {B : Nat} (a : Addr) (v : Value) : Stab B (fun W => W.cell? a = some v) := fun _ _ _ hs hg hr => cell_kept hs hg (fun r e => (hr r e).2)
theorem Stab.free {B : Nat} (a : Addr) (v : Value) : Stab B (fun W => W.cell? a = some v ∧ W.frozen? a = false) := fun _ _ _ hs hg hr =>
  ⟨cell_kept hs.1 hg (fun r e => (hr r e).2), (frozen_kept hs.1 hg (fun r e => (hr r e).2)).trans hs.2⟩
theorem Stab.blk {B : Nat} (b : Nat) (cs : Array Value) (t : TypeId) (f : Nat × Nat) : Stab B (fun W => W.heap[b]? = some (.cells cs t f)) := fun W W' row hs hg hr => by
  refine (hg.block b (Array.getElem?_eq_some_iff.1 hs).1 fun e => ?_).trans hs
  obtain ⟨_, o, ho, hc⟩ := hr b e.symm
  rw [hs] at ho; cases ho; cases hc
theorem Stab.lowBlk {B : Nat} (b : Nat) (hb : b < B) (o : Obj) : Stab B (fun W => W.heap[b]? = some o) := fun W W' row hs hg hr => by
  refine (hg.block b (Array.getElem?_eq_some_iff.1 hs).1 fun e => ?_).trans hs
  have := (hr b e.symm).1; omega
theorem Stab.owns {B base : Nat} (e : TypeId) (size : Nat) (v : Value) (n : Nat) (xs : List Value) : Stab B (fun W => W.ownsRow base e size v n xs) := fun W W' row hs hg hr => by
  refine hs.kept hg ?_
  rcases hs.2 with ⟨rfl, _⟩ | ⟨g, cap, cur, rfl, _, hgb, _⟩
  · exact .inl rfl
  · refine .inr fun ee => ?_
    obtain ⟨_, o, ho, hc⟩ := hr g ee.symm
    rw [hgb] at ho; cases ho; cases hc
theorem Stab.reads {B b size n : Nat} (A : Option Addr) (xs : List Value) : Stab B (fun W => Reads W b size A n xs) := fun W W' row hs hg hr =>
  ⟨hs.1, fun hn => by
    obtain ⟨bb, o, e, hb, hc⟩ := hs.2 hn
    exact ⟨bb, o, e, hb, fun j u hu => cell_kept (hc j u hu) hg (fun r e => (hr r e).2)⟩⟩
theorem Stab.size {B n : Nat} : Stab B (fun W => n ≤ W.heap.size) := fun _ _ _ hs hg _ => Nat.le_trans hs hg.size

/-- THE ITERATOR: called with yield it makes N rounds, unless it is told to stop; round k is handed what Enc says; D is what it wants to find between two rounds. -/
def Iter (gf : Nat) (lb : Array Value) (D : World → Prop) (Enc : Nat → World → Array Value → Prop) (N : Nat) : Prop :=
  ∀ (l : Nat) (J : Nat → World → Prop) (Jx : World → Prop) (W : World),
    (∀ k W W', J k W → Below W.heap.size W W' → J k W') → (∀ W W', Jx W → Below W.heap.size W W' → Jx W') → (∀ k W, J k W → D W) →
    (∀ k W xs, k < N → J k W → Enc k W xs → YieldAt Fence.wide 1 Try.prog l xs W fun e W' => (e = .returned (.bool true) ∧ J (k + 1) W') ∨ (e = .returned (.bool false) ∧ Jx W')) →
    J 0 W → Calls Try.prog gf (#[.func (.yield l) #[] #[]] ++ lb) W fun e W' => (∃ v, e = .returned v) ∧ (J N W' ∨ Jx W')

/-- how a round may be left -/
def roundOut (B : Nat) (I : World → Prop) (Ix : Code → World → Prop) (W : World) : Exit → Act → World → Prop
  | .normal, _, W' => KeepsFrom B W W' ∧ I W'
  | .ret, _, W' => KeepsFrom B W W' ∧ Ix .ret W'
  | .exit id, _, W' => KeepsFrom B W W' ∧ Ix (.exit id) W'
  | .goto t, _, W' => KeepsFrom B W W' ∧ Ix (.goto t) W'
  | .panic _, _, _ => False
  | .outgrown, _, _ => False
/-- what stands behind the assignment to the loop's variables -/
def assignOut (B : Nat) (Ax : Act → World → Prop) (W : World) : Exit → Act → World → Prop
  | .normal, a, W' => KeepsFrom B W W' ∧ Ax a W'
  | _, _, _ => False

theorem wp_range {g : Operand} {ps : Array Tmp} {assign body : Code} {Q : Exit → Act → World → Prop} {a : Act} {w : World} {gf : Nat} {lb : Array Value}
    (hg : a.eval g = .func (.func gf) #[] lb) (eg : Ent gf) {D : World → Prop} {Enc : Nat → World → Array Value → Prop} {N : Nat} (hit : Iter gf lb D Enc N)
    (I : Nat → World → Prop) (Ix : Code → World → Prop) (Ax : Nat → Act → World → Prop)
    (hI : ∀ k, Stab w.heap.size (I k)) (hIx : ∀ c, Stab w.heap.size (Ix c)) (hAx : ∀ k a₁, Stab w.heap.size (Ax k a₁)) (hD : ∀ k W, I k W → D W) (h0 : I 0 w)
    (hps : ∀ k W xs, k < N → I k W → Enc k W xs → xs.size = ps.size)
    (hassign : ∀ l k xs W, k < N → I k W → Enc k W xs → w.heap.size < l → l < W.heap.size → assign.wpIn (Fence.wide.inRound l) 1 Try.prog (assignOut w.heap.size (Ax k) W) { tmps := (ps.zip xs).foldl (fun t (p, v) => t.setIfInBounds p v) a.tmps, defers := [] } W)
    (hbody : ∀ l k a₁ W, k < N → Ax k a₁ W → w.heap.size < l → l < W.heap.size → body.wpIn (Fence.wide.inRound l) 1 Try.prog (roundOut w.heap.size (I (k + 1)) Ix W) a₁ W)
    (hdone : ∀ D W, I N W → w.heap.size ≤ D → W.heap[D]? = some (.deferred (some [])) → Q .normal { a with defers := { target := .collected D, args := #[] } :: a.defers } W)
    (hstop : ∀ D c W, Ix c W → w.heap.size ≤ D → W.heap[D]? = some (.deferred (some [])) → c.wp Try.prog Q { a with defers := { target := .collected D, args := #[] } :: a.defers } W) :
    (Code.rangeFunc g ps assign body).wp Try.prog Q a w := by
  rw [← wpIn_wide (n := 2)]
  refine wpIn_rangeFunc ?_
  intro fn hfn
  have hro : Fence.wide.round = none := rfl
  rw [hro]
  obtain ⟨rec, hrec⟩ : ∃ rec : LoopState → Option Code → Loop, rec = fun st pe => { state := st, pending := pe, fn, tmps := a.tmps, params := ps, assign, body, defers := w.heap.size } := ⟨_, rfl⟩
  obtain ⟨W1, hW1⟩ : ∃ W1, (w.alloc (.deferred (some []))).alloc (.loop (rec .ready none)) = W1 := ⟨_, rfl⟩
  have hL1 : W1.heap[w.heap.size + 1]? = some (.loop (rec .ready none)) := by
    rw [← hW1]; have := World.alloc_heap_new (w.alloc (.deferred (some []))) (.loop (rec .ready none)); rwa [World.size_alloc] at this
  have hK1 : W1.heap[w.heap.size]? = some (.deferred (some [])) := by
    rw [← hW1]; exact (Below.heap_alloc _ _ _ (by simp)).trans (World.alloc_heap_new w _)
  have hb1 : Below w.heap.size w W1 := by rw [← hW1]; exact ((Below.refl _ w).alloc (Nat.le_refl _) _).alloc (by simp) _
  have hI1 : I 0 W1 := (hI 0).below h0 hb1
  have keepL : ∀ {W W' : World} {k : Nat} {o : Obj}, Below W.heap.size W W' → W.heap[k]? = some o → W'.heap[k]? = some o := fun hb ho => (hb.block _ (Array.getElem?_eq_some_iff.1 ho).1).trans ho
  refine ⟨w.heap.size + 1, [{ target := .collected w.heap.size, args := #[] }], W1, { target := .fn (.func gf) lb, args := #[.func (.yield (w.heap.size + 1)) #[] #[]] }, W1, gf,
    #[.func (.yield (w.heap.size + 1)) #[] #[]] ++ lb, W1, ?_, ?_, ?_, ?_, fun _ => by omega, ?_⟩
  · rw [← hW1, hrec]; exact run_enterLoop_outer _ _ _ _ _
  · simp only [resolve, hg]
    simp [go_sem]
  · intro f' hf'; trivial
  · simp [invoke, go_sem, eg _ _]
  · refine callsIn_wide.2 ?_
    refine (hit (w.heap.size + 1)
      (fun k W => I k W ∧ W.heap[w.heap.size + 1]? = some (.loop (rec .ready none)) ∧ W.heap[w.heap.size]? = some (.deferred (some [])))
      (fun W => ∃ c, Ix c W ∧ W.heap[w.heap.size + 1]? = some (.loop (rec .done (some c))) ∧ W.heap[w.heap.size]? = some (.deferred (some [])))
      W1 (fun k W W' h hb => ⟨(hI k).below h.1 hb, keepL hb h.2.1, keepL hb h.2.2⟩)
      (fun W W' ⟨c, h⟩ hb => ⟨c, (hIx c).below h.1 hb, keepL hb h.2.1, keepL hb h.2.2⟩) (fun k W h => hD k W h.1) ?_ ⟨hI1, hL1, hK1⟩).mono ?_
    · rintro k W xs hk ⟨hi, hl, hkk⟩ henc
      have hlt : w.heap.size + 1 < W.heap.size := (Array.getElem?_eq_some_iff.1 hl).1
      have hy := run_yield (P := Try.prog) (args := xs) hl (by rw [hrec]; exact hps k W xs hk hi henc)
      rw [hrec] at hy
      refine ⟨fn, _, assign, body, hy, roundIn_of_wpIn hfn (wpIn_mono (hassign _ k xs W hk hi henc (by omega) hlt) ?_)⟩
      intro e a₁ W2 hp
      cases e with
      | normal =>
        obtain ⟨hkf, hax⟩ := hp
        have hl2 := hkf.same _ _ (by omega) hl rfl
        have hk2 := hkf.same _ _ (Nat.le_refl _) hkk rfl
        refine ⟨_, run_beginRound hl2 (by rw [hrec]), ?_⟩
        have hlt2 : w.heap.size + 1 < W2.heap.size := (Array.getElem?_eq_some_iff.1 hl2).1
        have hl3 : (W2.putObj (w.heap.size + 1) (.loop { rec .ready none with state := .busy })).heap[w.heap.size + 1]? = some (.loop { rec .ready none with state := .busy }) := World.putObj_heap_same hlt2
        have hk3 : (W2.putObj (w.heap.size + 1) (.loop { rec .ready none with state := .busy })).heap[w.heap.size]? = some (.deferred (some [])) := (World.putObj_heap_other (by omega)).trans hk2
        refine wpIn_mono (hbody _ k a₁ _ hk ((hAx k a₁).putObj _ hax (by omega) hl2 rfl) (by omega) (Array.getElem?_eq_some_iff.1 hl3).1) ?_
        have fin : ∀ (jump : Option Code) (W3 : World), KeepsFrom w.heap.size (W2.putObj (w.heap.size + 1) (.loop { rec .ready none with state := .busy })) W3 →
            (Instr.endRound (w.heap.size + 1) jump).run Try.prog W3 = .ok (.bool jump.isNone) (W3.putObj (w.heap.size + 1) (.loop (rec (if jump.isNone then .ready else .done) jump))) ∧
            W3.heap[w.heap.size + 1]? = some (.loop { rec .ready none with state := .busy }) ∧
            (W3.putObj (w.heap.size + 1) (.loop (rec (if jump.isNone then .ready else .done) jump))).heap[w.heap.size + 1]? = some (.loop (rec (if jump.isNone then .ready else .done) jump)) ∧
            (W3.putObj (w.heap.size + 1) (.loop (rec (if jump.isNone then .ready else .done) jump))).heap[w.heap.size]? = some (.deferred (some [])) := fun jump W3 hk4 => by
          have hl4 := hk4.same _ _ (by omega) hl3 rfl
          have := run_endRound (P := Try.prog) jump hl4
          rw [hrec] at this ⊢
          exact ⟨this, by rw [hrec] at hl4; exact hl4, World.putObj_heap_same (Array.getElem?_eq_some_iff.1 hl4).1, (World.putObj_heap_other (by omega)).trans (hk4.same _ _ (Nat.le_refl _) hk3 rfl)⟩
        rintro e a3 W3 hp
        cases e with
        | normal =>
          obtain ⟨hk4, hi3⟩ := hp
          obtain ⟨hr, hl4, hl5, hk5⟩ := fin none W3 hk4
          exact ⟨_, _, hr, .inl ⟨rfl, (hI _).putObj _ hi3 (by omega) hl4 rfl, hl5, hk5⟩⟩
        | ret =>
          obtain ⟨hk4, hi3⟩ := hp
          obtain ⟨hr, hl4, hl5, hk5⟩ := fin (some .ret) W3 hk4
          exact ⟨_, _, hr, .inr ⟨rfl, .ret, (hIx _).putObj _ hi3 (by omega) hl4 rfl, hl5, hk5⟩⟩
        | exit id =>
          obtain ⟨hk4, hi3⟩ := hp
          obtain ⟨hr, hl4, hl5, hk5⟩ := fin (some (.exit id)) W3 hk4
          exact ⟨_, _, hr, .inr ⟨rfl, .exit id, (hIx _).putObj _ hi3 (by omega) hl4 rfl, hl5, hk5⟩⟩
        | goto t =>
          obtain ⟨hk4, hi3⟩ := hp
          obtain ⟨hr, hl4, hl5, hk5⟩ := fin (some (.goto t)) W3 hk4
          exact ⟨_, _, hr, .inr ⟨rfl, .goto t, (hIx _).putObj _ hi3 (by omega) hl4 rfl, hl5, hk5⟩⟩
        | panic ch => exact hp.elim
        | outgrown => exact hp.elim
      | ret => exact hp.elim
      | exit id => exact hp.elim
      | goto t => exact hp.elim
      | panic ch => exact hp.elim
      | outgrown => exact hp.elim
    · rintro e W2 ⟨⟨v, rfl⟩, (⟨hi, hl, hkk⟩ | ⟨c, hi, hl, hkk⟩)⟩
      · exact ⟨none, _, by have := run_endLoop (P := Try.prog) hl (by rw [hrec]; simp); rw [hrec] at this; exact this, hdone _ _ ((hI _).putObj _ hi (by omega) hl rfl) (Nat.le_refl _) ((World.putObj_heap_other (by omega)).trans hkk)⟩
      · exact ⟨some c, _, by have := run_endLoop (P := Try.prog) hl (by rw [hrec]; simp); rw [hrec] at this; exact this, wpIn_wide.2 (hstop _ c _ ((hIx c).putObj _ hi (by omega) hl rfl) (Nat.le_refl _) ((World.putObj_heap_other (by omega)).trans hkk))⟩

/-- the frame of a round: the loop's parameters, then the assignments to its variables -/
abbrev roundAct (T : Array Value) (ps : Array Tmp) (sl : List (Tmp × Nat)) (xs : Array Value) : Act :=
  { tmps := sl.foldl (fun t (p, i) => t.setIfInBounds p (xs.getD i undef)) ((ps.zip xs).foldl (fun t (p, v) => t.setIfInBounds p v) T), defers := [] }
theorem wp_rangeS {g : Operand} {ps : Array Tmp} {assign body : Code} {Q : Exit → Act → World → Prop} {a : Act} {w : World} {gf : Nat} {lb : Array Value}
    (hg : a.eval g = .func (.func gf) #[] lb) (eg : Ent gf) {D : World → Prop} {Enc : Nat → World → Array Value → Prop} {N : Nat} (hit : Iter gf lb D Enc N)
    (sl : List (Tmp × Nat)) (I : Nat → World → Prop) (Ix : Code → World → Prop)
    (hI : ∀ k, Stab w.heap.size (I k)) (hIx : ∀ c, Stab w.heap.size (Ix c)) (hE : ∀ k xs, Stab w.heap.size (fun W => Enc k W xs)) (hD : ∀ k W, I k W → D W) (h0 : I 0 w)
    (hps : ∀ k W xs, Enc k W xs → xs.size = ps.size)
    (hassign : ∀ l k xs W (K : Act → World → Prop), Enc k W xs → K (roundAct a.tmps ps sl xs) W → assign.wpIn (Fence.wide.inRound l) 1 Try.prog (Exit.then K (fun _ _ _ => False)) { tmps := (ps.zip xs).foldl (fun t (p, v) => t.setIfInBounds p v) a.tmps, defers := [] } W)
    (hbody : ∀ l k xs W, k < N → I k W → Enc k W xs → w.heap.size < l → l < W.heap.size → body.wpIn (Fence.wide.inRound l) 1 Try.prog (roundOut w.heap.size (I (k + 1)) Ix W) (roundAct a.tmps ps sl xs) W)
    (hdone : ∀ D W, I N W → w.heap.size ≤ D → W.heap[D]? = some (.deferred (some [])) → Q .normal { a with defers := { target := .collected D, args := #[] } :: a.defers } W)
    (hstop : ∀ D c W, Ix c W → w.heap.size ≤ D → W.heap[D]? = some (.deferred (some [])) → c.wp Try.prog Q { a with defers := { target := .collected D, args := #[] } :: a.defers } W) :
    (Code.rangeFunc g ps assign body).wp Try.prog Q a w := by
  refine wp_range hg eg hit I Ix (fun k a₁ W => I k W ∧ ∃ xs, Enc k W xs ∧ a₁ = roundAct a.tmps ps sl xs) hI hIx (fun k a₁ => (hI k).and (Stab.ex fun xs => (hE k xs).and (Stab.pure _))) hD h0
    (fun k W xs _ _ h => hps k W xs h) (fun l k xs W hk hi he _ _ => ?_) (fun l k a₁ W hk hax h1 h2 => ?_) hdone hstop
  · refine wpIn_mono (hassign l k xs W (fun a₁ W' => a₁ = roundAct a.tmps ps sl xs ∧ W' = W) he ⟨rfl, rfl⟩) ?_
    intro e a₁ W' hp
    cases e with
    | normal => obtain ⟨rfl, rfl⟩ := hp; exact ⟨KeepsFrom.refl _ _, hi, xs, he, rfl⟩
    | ret => exact hp.elim
    | exit id => exact hp.elim
    | goto t => exact hp.elim
    | panic ch => exact hp.elim
    | outgrown => exact hp.elim
  · obtain ⟨hi, xs, he, rfl⟩ := hax
    exact hbody l k xs W hk hi he h1 h2
theorem Stab.sl {α : Type} {f : α → List Value} {B size : Nat} (A : Option Addr) (l : List α) : Stab B (fun W => Sl f size W W.heap.size A l) := fun W W' row hs hg hr => by
  have h := Stab.reads (B := B) (b := W.heap.size) (size := size) (n := l.length) A (flat f l) W W' row hs hg hr
  exact Reads.more h hg.size
/-- a world that has only grown keeps every record -/
theorem keepsFrom_below {B : Nat} {W W' : World} (h : Below W.heap.size W W') : KeepsFrom B W W' := ⟨h.size, fun k _o _ hk _ => (h.block k (Array.getElem?_eq_some_iff.1 hk).1).trans hk⟩
theorem fold2 (p q : Tmp) (x y : Value) (T : Array Value) : ((#[p, q] : Array Tmp).zip #[x, y]).foldl (fun t (p, v) => t.setIfInBounds p v) T = (T.setIfInBounds p x).setIfInBounds q y := by simp
theorem fold1 (p : Tmp) (x : Value) (T : Array Value) : ((#[p] : Array Tmp).zip #[x]).foldl (fun t (p, v) => t.setIfInBounds p v) T = T.setIfInBounds p x := by simp
theorem round2 (T : Array Value) (p q r s : Tmp) (x y : Value) : roundAct T #[p, q] [(r, 0), (s, 1)] #[x, y] = { tmps := (((T.setIfInBounds p x).setIfInBounds q y).setIfInBounds r x).setIfInBounds s y, defers := [] } := by simp [roundAct]
theorem round21 (T : Array Value) (p q s : Tmp) (x y : Value) : roundAct T #[p, q] [(s, 1)] #[x, y] = { tmps := ((T.setIfInBounds p x).setIfInBounds q y).setIfInBounds s y, defers := [] } := by simp [roundAct]
/-- a function whose body ranges over functions -/
theorem calls_marks {f : FuncId} {fn : Func} {c : Code} {args : Array Value} {w : World} {R : Ending → World → Prop} (hf : Try.prog.funcs[f]? = some fn) (hb : fn.body = some c)
    (h : c.wp Try.prog (bodyPostM Fence.wide 2 Try.prog fn R) { tmps := args ++ Array.replicate (fn.ntmps - args.size) undef, defers := [] } w) : Calls Try.prog f args w R :=
  callsIn_wide.1 (callsIn_of_wp_marks hf hb trivial (wpIn_wide.2 h))
theorem marks_ret0 {fn : Func} {R : Ending → World → Prop} {a : Act} {w : World} {v : Value} (hd : a.defers = []) (hr : (results fn a.tmps).run Try.prog w = .ok v w) (hR : R (.returned v) w) : bodyPostM Fence.wide 2 Try.prog fn R .ret a w := by
  show LeavesInM _ _ _ _ _ _ a.defers _ _
  rw [hd]; exact ⟨v, hr, hR⟩
theorem marks_ret1 {fn : Func} {R : Ending → World → Prop} {a : Act} {w : World} {v : Value} {D : Nat} (hd : a.defers = [{ target := .collected D, args := #[] }]) (hK : w.heap[D]? = some (.deferred (some [])))
    (hr : (results fn a.tmps).run Try.prog (w.putObj D (.deferred none)) = .ok v (w.putObj D (.deferred none))) (hR : R (.returned v) (w.putObj D (.deferred none))) : bodyPostM Fence.wide 2 Try.prog fn R .ret a w := by
  show LeavesInM _ _ _ _ _ _ a.defers _ _
  rw [hd]; exact ⟨by simp, .inl ⟨_, _, rfl, run_takeDeferred hK, v, hr, hR⟩⟩
theorem Blk.putObj {W : World} {b D : Nat} {cs : Array Value} {t : TypeId} {o o' : Obj} (h : Blk W b cs t) (hD : W.heap[D]? = some o) (ho : o.isCells = false) : Blk (W.putObj D o') b cs t := by
  refine (World.putObj_heap_other fun e => ?_).trans h
  subst e
  unfold Blk at h
  rw [h] at hD; cases hD; cases ho
theorem below_putObj {B D : Nat} {a W : World} {o : Obj} (h : Below B a W) (hD : B ≤ D) (hW : W.heap[D]? = some o) (o' : Obj) : Below B a (W.putObj D o') :=
  h.grown (grownBy_putObj' W D o') (by have := (Array.getElem?_eq_some_iff.1 hW).1; omega) (fun k e => by cases e; exact hD)
/-! Within a round: a region that draws its order, by the plain quiet walk. -/
theorem Oper.wpIn_of_quietR {P : Program} {l n : Nat} {C : World → Prop} {o : Oper} {a : Act} {K : Act → Prop} {K' : Act → World → Prop} {Q' : Exit → Act → World → Prop} {w : World} (hnd : ∀ c, o.op ≠ .defer c)
    (hw : C w) (h : ∀ a w', C w' → K a → K' a w') (hh : o.quiet P a C K) : o.wpIn (Fence.wide.inRound l) n P a w K' Q' := by
  obtain ⟨v, h1, h2⟩ := hh
  have hq := h1 w hw
  unfold Oper.quietAt at hq
  unfold Oper.wpIn
  refine ⟨fun _ _ => trivial, ?_⟩
  rw [Oper.semAt_eq _ _ _ hnd]
  cases hr : (execOp a.eval o).run P w with
  | halt x w' => rw [hr] at hq; exact hq.elim
  | ok x w' =>
    rw [hr] at hq
    cases x <;> first
      | exact hq.elim
      | (obtain ⟨rfl, rfl⟩ := hq; exact h _ _ hw h2)
      | (obtain ⟨rfl, hc⟩ := hq
         refine ⟨(fun hd => by cases hd), CallsIn.inRound l ((callsIn_wide.2 hc).mono ?_)⟩
         rintro e w'' ⟨rfl, hcw⟩
         exact h _ _ hcw h2)
def noDefer (ops : Array Oper) : Bool := ops.all fun o => match o.op with | .defer _ => false | _ => true
theorem noDefer_spec {ops : Array Oper} (h : noDefer ops = true) {i : Nat} {o : Oper} (ho : ops[i]? = some o) : ∀ c, o.op ≠ .defer c := by
  intro c hc
  obtain ⟨hi, rfl⟩ := Array.getElem?_eq_some_iff.1 ho
  have := Array.all_eq_true.1 h i hi
  rw [hc] at this; cases this
theorem wpAnyIn_of_quietR {P : Program} {l n : Nat} {md : Region.Mode} {ops : Array Oper} {C : World → Prop} {Q : Act → Prop} {Q' : Exit → Act → World → Prop} (hnd : noDefer ops = true) (hQ : ∀ a w, C w → Q a → Q' .normal a w) :
    ∀ (fuel : Nat) (listed : Array Bool) (a : Act) (w : World), C w → wpAnyQ P md ops C Q fuel listed a → wpAnyIn (Fence.wide.inRound l) n P md ops Q' fuel listed a w
  | 0, _, a, w, hC, h => ⟨h.1, hQ a w hC h.2⟩
  | fuel + 1, listed, a, w, hC, h => ⟨fun hr => hQ a w hC (h.1 hr), fun i hi => by
      have hq := h.2 i hi
      have ih := wpAnyIn_of_quietR (P := P) (l := l) (n := n) (md := md) hnd hQ fuel (listed.setIfInBounds i true)
      unfold qOp at hq
      unfold wpOpIn
      cases ho : ops[i]? with
      | none => simp only [ho] at hq ⊢; exact ih a w hC hq
      | some o =>
        simp only [ho] at hq ⊢
        split
        · rename_i hw; simp only [hw, if_true] at hq
          exact Oper.wpIn_of_quietR (noDefer_spec hnd ho) hC (fun a' w' hC' hk => ih a' w' hC' hk) hq
        · rename_i hw; simp only [hw] at hq
          exact ⟨fun _ _ => trivial, ih _ w hC hq⟩⟩
theorem wpIn_region_ext {P : Program} {lp n : Nat} {id : Nat} {Q : Exit → Act → World → Prop} {a : Act} {w : World} {l : List Oper} (hm : P.follows .mixedOrders = true) (hB : Region.lexB .any l.toArray = true) (hnd : noDefer l.toArray = true)
    (h : wpQuiet P l.toArray (fun w' => ∃ E, w' = World.ext w E) (fun a' => ∀ w', (∃ E, w' = World.ext w E) → Q .normal a' w') l a) : (Code.region id l.toArray true).wpIn (Fence.wide.inRound lp) n P Q a w := by
  simp only [Region.lexB, Bool.and_eq_true] at hB
  refine wpIn_region_any hm (wpAnyIn_of_quietR (C := fun w' => ∃ E, w' = World.ext w E) (Q := fun a' => ∀ w', (∃ E, w' = World.ext w E) → Q .normal a' w') hnd (fun _ w' hw' h => h w' hw') _ _ _ _ (ext_of ((Below.refl _ w).drew)) ?_)
  have := wpAnyQ_lex (P := P) (C := fun w' => ∃ E, w' = World.ext w E) (md := .any) hB.1 l.toArray.toList 0 (Array.replicate l.toArray.size false) a (by simp) (by simpa using hB.2) (by simpa using h)
  simpa using this
end Go.Proofs.Ytidlmbajpbbilaa
namespace Go.Proofs.Ytidlmbajpbbilaa
open Go.RowKit
attribute [local go_sem] Oper.semAt_some

/-- what a round over all charts is handed -/
def EncChart (s : Sch) (k : Nat) (W : World) (xs : Array Value) : Prop :=
  ∃ A c, xs = #[.int .i64 (k : Int), .slice A s.places.toNat c] ∧ Sl intCell 1 W W.heap.size A (chartL s k)
theorem ent_all1 : Ent 85 := ent_of Try.func85 (by kernel_rfl) rfl

set_option maxRecDepth 100000 in
set_option maxHeartbeats 1000000 in
theorem all1_iter (s : Sch) (R : Value) (B : Nat) (hs : Small s) (hc : chartsN s.signs s.places.toNat ≤ 4096) :
    Iter 85 #[.pointer (some ⟨B, 0, none⟩)] (fun W => ScBox W B s R) (EncChart s) (chartsN s.signs s.places.toNat).toNat := by
  intro l J Jx W hJs hJxs hJD hY h0
  have hcb := chartsN_bd s.signs hs.2.2.1 s.places.toNat
  obtain ⟨N, hN⟩ := Int.eq_ofNat_of_zero_le (a := chartsN s.signs s.places.toNat) (by omega)
  have HC := fun W => Lib.hid (hN ▸ charts_any s R hs.1 hs.2.1 hs.2.2.1 hs.2.2.2 W)
  have HCH := fun (k : Nat) (hk : k ≤ 4096) W => Lib.hid (chart_any s R (k : Int) hs (by omega) (by omega) W)
  rw [hN] at hY hc ⊢
  simp only [Int.toNat_natCast] at hY ⊢
  have HJs := Lib.hid hJs; have HJD := Lib.hid hJD; have HY := Lib.hid hY
  have hbx := (hJD 0 W h0)
  obtain ⟨hB, b0, b1, b2, b3, b4⟩ := hbx
  have H0 := Lib.hid h0
  have hcs : N ≤ 4096 := by omega
  clear hJs hJD hY h0 hN hcb hc hJxs
  obtain ⟨pl, sg, kk, aa, ra, rc, rs⟩ := s
  simp only at *
  rw [← callsIn_wide (n := 2)]
  refine callsIn_of_wp Try.func85 rfl trivial ?_ rfl
  simp only [Try.ntmps85, List.size_toArray, List.length_cons, List.length_nil, Nat.reduceAdd, Nat.reduceSub, Array.replicate_succ, Array.replicate_zero, List.push_toArray, List.append_toArray, List.nil_append, List.cons_append]
  gi_wp2
  refine ⟨trivial, (callsIn_wide.2 (HC _).out).mono ?_⟩
  rintro e w1 ⟨rfl, hb1⟩
  have HJ1 := Lib.hid (HJs.out 0 W w1 H0.out hb1)
  gi_wp2
  gi_loopw [6] (fun i wr => ∃ k : Nat, k ≤ N ∧ i = .int .i64 k ∧ Hid (J k wr)) (fun i _ => N - (intOf i).toNat)
  case atStart => exact ⟨0, by omega, rfl, HJ1⟩
  case round =>
    obtain ⟨k, hk, rfl, hj⟩ := hrel
    obtain ⟨hB', q0, q1, q2, q3, q4⟩ := HJD.out k wr hj.out
    by_cases hlt : k < N
    · gi_wp2
      refine ⟨trivial, (callsIn_wide.2 (HCH k (by omega) _).out).mono ?_⟩
      rintro e w2 ⟨v, rfl, hown, hb2⟩
      have hj2 := HJs.out k wr w2 hj.out hb2
      obtain ⟨A, c, rfl, hsl⟩ := Sl.of_own hown
      rw [digits_len] at *
      obtain ⟨fn, tmps, assign, body, hy, hR⟩ := HY.out k w2 #[.int .i64 (k : Int), .slice A pl.toNat c] hlt hj2 ⟨A, c, rfl, hsl⟩
      have HRR := Lib.hid hR
      clear hown hsl hR hj2 hb2
      gi_wp2
      refine HRR.out.mono ?_
      rintro e W3 (⟨rfl, hJ3⟩ | ⟨rfl, hJx3⟩)
      · have HJ3 := Lib.hid hJ3
        clear hJ3
        gi_wp2
        go_roundw
        case rel => exact ⟨k + 1, by omega, by go_num, HJ3⟩
        case measure => simp [intOf]; omega
      · have HJ3 := Lib.hid hJx3
        clear hJx3
        gi_wp2
        refine bodyPost_ret (results_none rfl _ _ _) rfl ?_
        exact ⟨⟨_, rfl⟩, .inr HJ3.out⟩
    · obtain rfl : k = N := by omega
      gi_wp2
      go_end0
      exact ⟨⟨_, rfl⟩, .inl hj.out⟩

theorem all_any (s : Sch) (R : Value) (w : World) : Calls Try.prog 53 #[scv s R] w fun e w' => e = .returned (.func (.func 85) #[] #[.pointer (some ⟨w.heap.size, 0, none⟩)]) ∧ w.alloc (.cells #[.int .i64 s.places, .int .i64 s.signs, .int .i64 s.kinds, .int .i64 s.answers, R] 24) = w' := by
  go_enter Try.func53, Try.ntmps53
  go_wp2
  go_ret
  exact ⟨rfl, rfl⟩
end Go.Proofs.Ytidlmbajpbbilaa

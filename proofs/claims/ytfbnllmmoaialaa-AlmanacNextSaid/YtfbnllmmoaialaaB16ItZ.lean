/- Ranges over functions that keep a block of their own between two rounds: a contract for such iterators, and one law for the caller. -/
import Derived.Test.YtfbnllmmoaialaaB02Iter
import Derived.Test.YtfbnllmmoaialaaB15Av
namespace Go.Proofs.Ytfbnllmmoaialaa
open Go.RowKit

/-- what holds of a world holds when block z, or a block from B on that is no cells, has turned, or blocks have come -/
def StabZ (B z : Nat) (I : World → Prop) : Prop :=
  ∀ W W' row, I W → W.grownBy W' row → (∀ r, row = some r → B ≤ r ∧ (r = z ∨ ∃ o : Obj, W.heap[r]? = some o ∧ o.isCells = false)) → I W'
theorem StabZ.stab {B z : Nat} {I : World → Prop} (h : StabZ B z I) : Stab B I := fun W W' row hi hg hr => h W W' row hi hg fun r e => ⟨(hr r e).1, .inr (hr r e).2⟩
theorem StabZ.and {B z : Nat} {I I' : World → Prop} (h : StabZ B z I) (h' : StabZ B z I') : StabZ B z (fun W => I W ∧ I' W) := fun W W' row hs hg hr => ⟨h W W' row hs.1 hg hr, h' W W' row hs.2 hg hr⟩
theorem StabZ.pure {B z : Nat} (p : Prop) : StabZ B z (fun _ => p) := fun _ _ _ h _ _ => h
theorem StabZ.ex {B z : Nat} {α : Type} {I : α → World → Prop} (h : ∀ x, StabZ B z (I x)) : StabZ B z (fun W => ∃ x, I x W) := fun W W' row ⟨x, hx⟩ hg hr => ⟨x, h x W W' row hx hg hr⟩
theorem StabZ.low {B z b : Nat} (hb : b ≤ B) (w : World) (hw : b ≤ w.heap.size) : StabZ B z (fun W => Below b w W) := fun W W' row hs hg hr =>
  hs.grown hg (Nat.le_trans hw hs.size) (fun k e => Nat.le_trans hb (hr k e).1)
theorem StabZ.blk {B z : Nat} (b : Nat) (hb : b ≠ z) (cs : Array Value) (t : TypeId) (f : Nat × Nat) : StabZ B z (fun W => W.heap[b]? = some (.cells cs t f)) := fun W W' row hs hg hr => by
  refine (hg.block b (Array.getElem?_eq_some_iff.1 hs).1 fun e => ?_).trans hs
  rcases (hr b e.symm).2 with h | ⟨o, ho, hc⟩
  · exact hb h
  · rw [hs] at ho; cases ho; cases hc
theorem StabZ.lowBlk {B z : Nat} (b : Nat) (hb : b < B) (o : Obj) : StabZ B z (fun W => W.heap[b]? = some o) := fun W W' row hs hg hr => by
  refine (hg.block b (Array.getElem?_eq_some_iff.1 hs).1 fun e => ?_).trans hs
  have := (hr b e.symm).1; omega
theorem StabZ.size {B z n : Nat} : StabZ B z (fun W => n ≤ W.heap.size) := fun _ _ _ hs hg _ => Nat.le_trans hs hg.size
theorem StabZ.owns {B z base : Nat} (e : TypeId) (size : Nat) (v : Value) (n : Nat) (xs : List Value) (hz : z < base) : StabZ B z (fun W => W.ownsRow base e size v n xs) := fun W W' row hs hg hr => by
  refine hs.kept hg ?_
  rcases hs.2 with ⟨rfl, _⟩ | ⟨g, cap, cur, rfl, hbase, hgb, _⟩
  · exact .inl rfl
  · refine .inr fun ee => ?_
    rcases (hr g ee.symm).2 with h | ⟨o, ho, hc⟩
    · omega
    · rw [hgb] at ho; cases ho; cases hc
theorem grownZ_of_below {w w' : World} (z : Nat) (h : Below w.heap.size w w') : w.grownBy w' (some z) := ⟨h.os, h.tape, h.output, h.size, fun k hk _ => h.block k hk⟩

/-- THE ITERATOR: it makes a block z of its own, of which D tells; round k is handed what Enc says. -/
def IterZ (gf : Nat) (lb : Array Value) (off : Nat) (D0 : World → Prop) (D : Nat → World → Prop) (Enc : Nat → World → Array Value → Prop) (N : Nat) : Prop :=
  ∀ (l : Nat) (J : Nat → Nat → World → Prop) (J0 Jx : World → Prop) (W : World),
    (∀ W W', J0 W → Below W.heap.size W W' → J0 W') →
    (∀ z k V V', J z k V → Below V.heap.size V V' → J z k V') →
    (∀ z k V V', W.heap.size ≤ z → J z k V → V.grownBy V' (some z) → J z k V') →
    (∀ V V', Jx V → Below V.heap.size V V' → Jx V') → (∀ V, J0 V → D0 V) →
    (∀ z V, W.heap.size + off ≤ z → z < V.heap.size → D z V → J0 V → J z 0 V) →
    (∀ z k V xs, W.heap.size + off ≤ z → k < N → J z k V → D z V → Enc k V xs → YieldAt Fence.wide 1 Try.prog l xs V fun e V' => (e = .returned (.bool true) ∧ J z (k + 1) V' ∧ D z V') ∨ (e = .returned (.bool false) ∧ Jx V')) →
    J0 W → Calls Try.prog gf (#[.func (.yield l) #[] #[]] ++ lb) W fun e W' => (∃ v, e = .returned v) ∧ ((∃ z, W.heap.size + off ≤ z ∧ J z N W') ∨ Jx W')

theorem wp_rangeZ {g : Operand} {ps : Array Tmp} {assign body : Code} {Q : Exit → Act → World → Prop} {a : Act} {w : World} {gf : Nat} {lb : Array Value}
    (hg : a.eval g = .func (.func gf) #[] lb) (eg : Ent gf) {D0 : World → Prop} {D : Nat → World → Prop} {Enc : Nat → World → Array Value → Prop} {N off : Nat} (hit : IterZ gf lb off D0 D Enc N)
    (I : Nat → Nat → World → Prop) (Ix : Code → World → Prop) (Ax : Nat → Nat → Act → World → Prop)
    (hI : ∀ z k, w.heap.size + 1 + off < z → StabZ w.heap.size z (I z k)) (hIx : ∀ c, Stab w.heap.size (Ix c)) (hDs : ∀ z W b o', w.heap.size + 1 + off < z → w.heap.size ≤ b → b ≤ w.heap.size + 1 → D z W → D z (W.putObj b o')) (hAx : ∀ z k a₁ W b o o', w.heap.size + 1 + off < z → w.heap.size ≤ b → b ≤ w.heap.size + 1 → W.heap[b]? = some o → o.isCells = false → Ax z k a₁ W → Ax z k a₁ (W.putObj b o'))
    (hD0 : ∀ W, Below w.heap.size w W → D0 W) (h0 : ∀ z W, w.heap.size + 1 + off < z → z < W.heap.size → Below w.heap.size w W → I z 0 W)
    (hps : ∀ k W xs, k < N → Enc k W xs → xs.size = ps.size)
    (hassign : ∀ l z k xs W, w.heap.size + 1 + off < z → k < N → I z k W → D z W → Enc k W xs → w.heap.size < l → l < z → assign.wpIn (Fence.wide.inRound l) 1 Try.prog (assignOut w.heap.size (Ax z k) W) { tmps := (ps.zip xs).foldl (fun t (p, v) => t.setIfInBounds p v) a.tmps, defers := [] } W)
    (hbody : ∀ l z k a₁ W, w.heap.size + 1 + off < z → k < N → Ax z k a₁ W → w.heap.size < l → l < z → body.wpIn (Fence.wide.inRound l) 1 Try.prog (roundOut w.heap.size (fun W' => I z (k + 1) W' ∧ D z W') Ix W) a₁ W)
    (hdone : ∀ z D W, w.heap.size + 1 + off < z → I z N W → w.heap.size ≤ D → W.heap[D]? = some (.deferred (some [])) → Q .normal { a with defers := { target := .collected D, args := #[] } :: a.defers } W)
    (hstop : ∀ D c W, Ix c W → w.heap.size ≤ D → W.heap[D]? = some (.deferred (some [])) → c.wp Try.prog Q { a with defers := { target := .collected D, args := #[] } :: a.defers } W) :
    (Code.rangeFunc g ps assign body).wp Try.prog Q a w := by
  rw [← wpIn_wide (n := 2)]
  refine wpIn_rangeFunc ?_
  intro fn hfn
  have hro : Fence.wide.round = none := rfl
  rw [hro]
  obtain ⟨rec, hrec⟩ : ∃ rec : LoopState → Option Code → Loop, rec = fun st pe => { state := st, pending := pe, fn, tmps := a.tmps, params := ps, assign, body, defers := w.heap.size } := ⟨_, rfl⟩
  obtain ⟨W1, hW1⟩ : ∃ W1, (w.alloc (.deferred (some []))).alloc (.loop (rec .ready none)) = W1 := ⟨_, rfl⟩
  have hL1 : W1.heap[w.heap.size + 1]? = some (.loop (rec .ready none)) := by
    rw [← hW1]; have := World.alloc_heap_new (w.alloc (.deferred (some []))) (.loop (rec .ready none)); rwa [World.size_alloc] at this
  have hK1 : W1.heap[w.heap.size]? = some (.deferred (some [])) := by
    rw [← hW1]; exact (Below.heap_alloc _ _ _ (by simp)).trans (World.alloc_heap_new w _)
  have hb1 : Below w.heap.size w W1 := by rw [← hW1]; exact ((Below.refl _ w).alloc (Nat.le_refl _) _).alloc (by simp) _
  have hz1 : W1.heap.size = w.heap.size + 2 := by rw [← hW1]; simp
  have keepL : ∀ {W W' : World} {k : Nat} {o : Obj}, Below W.heap.size W W' → W.heap[k]? = some o → W'.heap[k]? = some o := fun hb ho => (hb.block _ (Array.getElem?_eq_some_iff.1 ho).1).trans ho
  refine ⟨w.heap.size + 1, [{ target := .collected w.heap.size, args := #[] }], W1, { target := .fn (.func gf) lb, args := #[.func (.yield (w.heap.size + 1)) #[] #[]] }, W1, gf,
    #[.func (.yield (w.heap.size + 1)) #[] #[]] ++ lb, W1, ?_, ?_, ?_, ?_, fun _ => by omega, ?_⟩
  · rw [← hW1, hrec]; exact run_enterLoop_outer _ _ _ _ _
  · simp only [resolve, hg]
    simp [go_sem]
  · intro f' hf'; trivial
  · simp [invoke, go_sem, eg _ _]
  · refine callsIn_wide.2 ?_
    refine (hit (w.heap.size + 1)
      (fun z k W => w.heap.size + 1 + off < z ∧ I z k W ∧ W.heap[w.heap.size + 1]? = some (.loop (rec .ready none)) ∧ W.heap[w.heap.size]? = some (.deferred (some [])))
      (fun W => Below w.heap.size w W ∧ W.heap[w.heap.size + 1]? = some (.loop (rec .ready none)) ∧ W.heap[w.heap.size]? = some (.deferred (some [])))
      (fun W => ∃ c, Ix c W ∧ W.heap[w.heap.size + 1]? = some (.loop (rec .done (some c))) ∧ W.heap[w.heap.size]? = some (.deferred (some [])))
      W1 (fun W W' h hb => ⟨h.1.trans (hb.mono h.1.size), keepL hb h.2.1, keepL hb h.2.2⟩)
      (fun z k W W' h hb => ⟨h.1, (hI z k h.1).stab.below h.2.1 hb, keepL hb h.2.2.1, keepL hb h.2.2.2⟩)
      (fun z k W W' hz h hg => ⟨h.1, hI z k h.1 W W' (some z) h.2.1 hg (fun r e => by cases e; exact ⟨by omega, .inl rfl⟩),
        (hg.block _ (Array.getElem?_eq_some_iff.1 h.2.2.1).1 (by intro e; have := Option.some.inj e; omega)).trans h.2.2.1,
        (hg.block _ (Array.getElem?_eq_some_iff.1 h.2.2.2).1 (by intro e; have := Option.some.inj e; omega)).trans h.2.2.2⟩)
      (fun W W' ⟨c, h⟩ hb => ⟨c, (hIx c).below h.1 hb, keepL hb h.2.1, keepL hb h.2.2⟩) (fun W h => hD0 W h.1)
      (fun z W hz hzW _ h => ⟨by omega, h0 z W (by omega) hzW h.1, h.2.1, h.2.2⟩) ?_ ⟨hb1, hL1, hK1⟩).mono ?_
    · rintro z k W xs hz hk ⟨hzz, hi, hl, hkk⟩ hd henc
      have hlt : w.heap.size + 1 < W.heap.size := (Array.getElem?_eq_some_iff.1 hl).1
      have hy := run_yield (P := Try.prog) (args := xs) hl (by rw [hrec]; exact hps k W xs hk henc)
      rw [hrec] at hy
      refine ⟨fn, _, assign, body, hy, roundIn_of_wpIn hfn (wpIn_mono (hassign _ z k xs W hzz hk hi hd henc (by omega) (by omega)) ?_)⟩
      intro e a₁ W2 hp
      cases e with
      | normal =>
        obtain ⟨hkf, hax⟩ := hp
        have hl2 := hkf.same _ _ (by omega) hl rfl
        have hk2 := hkf.same _ _ (Nat.le_refl _) hkk rfl
        refine ⟨_, run_beginRound hl2 (by rw [hrec]), ?_⟩
        have hlt2 : w.heap.size + 1 < W2.heap.size := (Array.getElem?_eq_some_iff.1 hl2).1
        have hl3 : (W2.putObj (w.heap.size + 1) (.loop { rec .ready none with state := .busy })).heap[w.heap.size + 1]? = some (.loop { rec .ready none with state := .busy }) := World.putObj_heap_same hlt2
        have hk3 : (W2.putObj (w.heap.size + 1) (.loop { rec .ready none with state := .busy })).heap[w.heap.size]? = some (.deferred (some [])) := (World.putObj_heap_other (by omega)).trans hk2
        refine wpIn_mono (hbody _ z k a₁ _ hzz hk (hAx z k a₁ _ _ _ _ hzz (by omega) (by omega) hl2 rfl hax) (by omega) (by omega)) ?_
        have fin : ∀ (jump : Option Code) (W3 : World), KeepsFrom w.heap.size (W2.putObj (w.heap.size + 1) (.loop { rec .ready none with state := .busy })) W3 →
            (Instr.endRound (w.heap.size + 1) jump).run Try.prog W3 = .ok (.bool jump.isNone) (W3.putObj (w.heap.size + 1) (.loop (rec (if jump.isNone then .ready else .done) jump))) ∧
            W3.heap[w.heap.size + 1]? = some (.loop { rec .ready none with state := .busy }) ∧
            (W3.putObj (w.heap.size + 1) (.loop (rec (if jump.isNone then .ready else .done) jump))).heap[w.heap.size + 1]? = some (.loop (rec (if jump.isNone then .ready else .done) jump)) ∧
            (W3.putObj (w.heap.size + 1) (.loop (rec (if jump.isNone then .ready else .done) jump))).heap[w.heap.size]? = some (.deferred (some [])) := fun jump W3 hk4 => by
          have hl4 := hk4.same _ _ (by omega) hl3 rfl
          have := run_endRound (P := Try.prog) jump hl4
          rw [hrec] at this ⊢
          exact ⟨this, by rw [hrec] at hl4; exact hl4, World.putObj_heap_same (Array.getElem?_eq_some_iff.1 hl4).1, (World.putObj_heap_other (by omega)).trans (hk4.same _ _ (Nat.le_refl _) hk3 rfl)⟩
        rintro e a3 W3 hp
        cases e with
        | normal =>
          obtain ⟨hk4, hi3, hd3⟩ := hp
          obtain ⟨hr, hl4, hl5, hk5⟩ := fin none W3 hk4
          exact ⟨_, _, hr, .inl ⟨rfl, ⟨hzz, (hI z _ hzz).stab.putObj _ hi3 (by omega) hl4 rfl, hl5, hk5⟩, hDs z _ _ _ hzz (by omega) (by omega) hd3⟩⟩
        | ret =>
          obtain ⟨hk4, hi3⟩ := hp
          obtain ⟨hr, hl4, hl5, hk5⟩ := fin (some .ret) W3 hk4
          exact ⟨_, _, hr, .inr ⟨rfl, .ret, (hIx _).putObj _ hi3 (by omega) hl4 rfl, hl5, hk5⟩⟩
        | exit id =>
          obtain ⟨hk4, hi3⟩ := hp
          obtain ⟨hr, hl4, hl5, hk5⟩ := fin (some (.exit id)) W3 hk4
          exact ⟨_, _, hr, .inr ⟨rfl, .exit id, (hIx _).putObj _ hi3 (by omega) hl4 rfl, hl5, hk5⟩⟩
        | goto t =>
          obtain ⟨hk4, hi3⟩ := hp
          obtain ⟨hr, hl4, hl5, hk5⟩ := fin (some (.goto t)) W3 hk4
          exact ⟨_, _, hr, .inr ⟨rfl, .goto t, (hIx _).putObj _ hi3 (by omega) hl4 rfl, hl5, hk5⟩⟩
        | panic ch => exact hp.elim
        | outgrown => exact hp.elim
      | ret => exact hp.elim
      | exit id => exact hp.elim
      | goto t => exact hp.elim
      | panic ch => exact hp.elim
      | outgrown => exact hp.elim
    · rintro e W2 ⟨⟨v, rfl⟩, (⟨z, -, hzz, hi, hl, hkk⟩ | ⟨c, hi, hl, hkk⟩)⟩
      · exact ⟨none, _, by have := run_endLoop (P := Try.prog) hl (by rw [hrec]; simp); rw [hrec] at this; exact this, hdone z _ _ hzz ((hI z _ hzz).stab.putObj _ hi (by omega) hl rfl) (Nat.le_refl _) ((World.putObj_heap_other (by omega)).trans hkk)⟩
      · exact ⟨some c, _, by have := run_endLoop (P := Try.prog) hl (by rw [hrec]; simp); rw [hrec] at this; exact this, wpIn_wide.2 (hstop _ c _ ((hIx c).putObj _ hi (by omega) hl rfl) (Nat.le_refl _) ((World.putObj_heap_other (by omega)).trans hkk))⟩

theorem wp_rangeSZ {g : Operand} {ps : Array Tmp} {assign body : Code} {Q : Exit → Act → World → Prop} {a : Act} {w : World} {gf : Nat} {lb : Array Value}
    (hg : a.eval g = .func (.func gf) #[] lb) (eg : Ent gf) {D0 : World → Prop} {D : Nat → World → Prop} {Enc : Nat → World → Array Value → Prop} {N off : Nat} (hit : IterZ gf lb off D0 D Enc N)
    (sl : List (Tmp × Nat)) (I : Nat → Nat → World → Prop) (Ix : Code → World → Prop)
    (hI : ∀ z k, w.heap.size + 1 + off < z → StabZ w.heap.size z (I z k)) (hIx : ∀ c, Stab w.heap.size (Ix c)) (hDs : ∀ z W b o', w.heap.size + 1 + off < z → w.heap.size ≤ b → b ≤ w.heap.size + 1 → D z W → D z (W.putObj b o')) (hE : ∀ k xs, Stab w.heap.size (fun W => Enc k W xs))
    (hD0 : ∀ W, Below w.heap.size w W → D0 W) (h0 : ∀ z W, w.heap.size + 1 + off < z → z < W.heap.size → Below w.heap.size w W → I z 0 W)
    (hps : ∀ k W xs, Enc k W xs → xs.size = ps.size)
    (hassign : ∀ l k xs W (K : Act → World → Prop), Enc k W xs → K (roundAct a.tmps ps sl xs) W → assign.wpIn (Fence.wide.inRound l) 1 Try.prog (Exit.then K (fun _ _ _ => False)) { tmps := (ps.zip xs).foldl (fun t (p, v) => t.setIfInBounds p v) a.tmps, defers := [] } W)
    (hbody : ∀ l z k xs W, w.heap.size + 1 + off < z → k < N → I z k W → D z W → Enc k W xs → w.heap.size < l → l < z → body.wpIn (Fence.wide.inRound l) 1 Try.prog (roundOut w.heap.size (fun W' => I z (k + 1) W' ∧ D z W') Ix W) (roundAct a.tmps ps sl xs) W)
    (hdone : ∀ z D W, w.heap.size + 1 + off < z → I z N W → w.heap.size ≤ D → W.heap[D]? = some (.deferred (some [])) → Q .normal { a with defers := { target := .collected D, args := #[] } :: a.defers } W)
    (hstop : ∀ D c W, Ix c W → w.heap.size ≤ D → W.heap[D]? = some (.deferred (some [])) → c.wp Try.prog Q { a with defers := { target := .collected D, args := #[] } :: a.defers } W) :
    (Code.rangeFunc g ps assign body).wp Try.prog Q a w := by
  refine wp_rangeZ hg eg hit I Ix (fun z k a₁ W => I z k W ∧ D z W ∧ ∃ xs, Enc k W xs ∧ a₁ = roundAct a.tmps ps sl xs) hI hIx hDs (fun z k a₁ W b o o' hz h1 h2 ho hoc ⟨hi, hd, xs, he, e⟩ => ⟨(hI z k hz).stab.putObj _ hi h1 ho hoc, hDs z _ _ _ hz h1 h2 hd, xs, (hE k xs).putObj _ he h1 ho hoc, e⟩) hD0 h0
    (fun k W xs _ h => hps k W xs h) (fun l z k xs W hz hk hi hd he _ _ => ?_) (fun l z k a₁ W hz hk hax h1 h2 => ?_) hdone hstop
  · refine wpIn_mono (hassign l k xs W (fun a₁ W' => a₁ = roundAct a.tmps ps sl xs ∧ W' = W) he ⟨rfl, rfl⟩) ?_
    intro e a₁ W' hp
    cases e with
    | normal => obtain ⟨rfl, rfl⟩ := hp; exact ⟨KeepsFrom.refl _ _, hi, hd, xs, he, rfl⟩
    | ret => exact hp.elim
    | exit id => exact hp.elim
    | goto t => exact hp.elim
    | panic ch => exact hp.elim
    | outgrown => exact hp.elim
  · obtain ⟨hi, hd, xs, he, rfl⟩ := hax
    exact hbody l z k xs W hz hk hi hd he h1 h2
end Go.Proofs.Ytfbnllmmoaialaa
namespace Go.Proofs.Ytfbnllmmoaialaa
open Go.RowKit
attribute [local go_sem] Oper.semAt_some

/-- a slice that lies in a block of P -/
def SlP {α : Type} (f : α → List Value) (size : Nat) (w : World) (P : Nat → Prop) (A : Option Addr) (l : List α) : Prop :=
  (flat f l).length = l.length * size ∧ (0 < l.length → ∃ b o, A = some ⟨b, o, none⟩ ∧ P b ∧ ∀ j u, (flat f l)[j]? = some u → w.cell? ⟨b, o + j, none⟩ = some u)
theorem SlP.sl {α : Type} {f : α → List Value} {size : Nat} {w : World} {P : Nat → Prop} {A : Option Addr} {l : List α} {B : Nat} (h : SlP f size w P A l) (hP : ∀ b, P b → b < B) : Sl f size w B A l :=
  ⟨h.1, fun hn => by obtain ⟨b, o, e, hb, hc⟩ := h.2 hn; exact ⟨b, o, e, hP b hb, hc⟩⟩
theorem Sl.slp {α : Type} {f : α → List Value} {size : Nat} {w : World} {P : Nat → Prop} {A : Option Addr} {l : List α} {B : Nat} (h : Sl f size w B A l) (hP : ∀ b, b < B → P b) : SlP f size w P A l :=
  ⟨h.1, fun hn => by obtain ⟨b, o, e, hb, hc⟩ := h.2 hn; exact ⟨b, o, e, hP b hb, hc⟩⟩
theorem SlP.keep {α : Type} {f : α → List Value} {size : Nat} {w w' : World} {P : Nat → Prop} {A : Option Addr} {l : List α} (h : SlP f size w P A l) (hk : ∀ p : Addr, P p.block → w'.cell? p = w.cell? p) : SlP f size w' P A l :=
  ⟨h.1, fun hn => by obtain ⟨b, o, e, hb, hc⟩ := h.2 hn; exact ⟨b, o, e, hb, fun j u hu => (hk ⟨b, o + j, none⟩ hb).trans (hc j u hu)⟩⟩
/-- the rules of persons lie in blocks of P -/
structure PsP (W : World) (P : Nat → Prop) (A : Option Addr) (ps : List DPs) : Prop where
  len : ps.length ≤ 1000000
  sl : SlP DPs.cells 1 W P A ps
  rlen : ∀ p ∈ ps, p.rules.length ≤ 1000000
  rsl : ∀ p ∈ ps, SlP DRl.cells 2 W P p.a p.rules
  tlen : ∀ p ∈ ps, ∀ r ∈ p.rules, r.when_.length ≤ 1000000
  tset : ∀ p ∈ ps, ∀ r ∈ p.rules, ∀ t ∈ r.when_, 0 ≤ t.set ∧ t.set < 18446744073709551616
  tsl : ∀ p ∈ ps, ∀ r ∈ p.rules, SlP DTs.cells 5 W P r.wa r.when_
theorem PsP.keep {w w' : World} {P : Nat → Prop} {A : Option Addr} {ps : List DPs} (h : PsP w P A ps) (hk : ∀ p : Addr, P p.block → w'.cell? p = w.cell? p) : PsP w' P A ps :=
  ⟨h.len, h.sl.keep hk, h.rlen, fun p hp => (h.rsl p hp).keep hk, h.tlen, h.tset, fun p hp r hr => (h.tsl p hp r hr).keep hk⟩
theorem PsP.rls {W : World} {P : Nat → Prop} {A : Option Addr} {ps : List DPs} {B : Nat} (h : PsP W P A ps) (hP : ∀ b, P b → b < B) (p : DPs) (hp : p ∈ ps) : RlsAt W B p.a p.rules :=
  ⟨h.rlen p hp, (h.rsl p hp).sl hP, fun r hr => ⟨h.tlen p hp r hr, h.tset p hp r hr, (h.tsl p hp r hr).sl hP⟩⟩
/-- what the iterator over days has captured, in blocks of P -/
structure DaysAt (P : Nat → Prop) (x : Alm) (ps : List DPs) (fr to_ : Int) (b1 b2 b3 b4 : Nat) (Ap : Option Addr) (cp : Nat) (W : World) : Prop where
  p1 : P b1
  p2 : P b2
  p3 : P b3
  p4 : P b4
  k1 : Blk W b1 x.cells.toArray 28
  k2 : Blk W b2 #[.int .i64 fr] 3
  k3 : Blk W b3 #[.int .i64 to_] 3
  k4 : Blk W b4 #[.slice Ap ps.length cp] 49
  cyc : SlP Cyc.cells 2 W P x.a x.cycles
  ps : PsP W P Ap ps
theorem DaysAt.keep {P : Nat → Prop} {x : Alm} {ps : List DPs} {fr to_ : Int} {b1 b2 b3 b4 : Nat} {Ap : Option Addr} {cp : Nat} {W W' : World} (h : DaysAt P x ps fr to_ b1 b2 b3 b4 Ap cp W) (hk : ∀ b, P b → b < W.heap.size → W'.heap[b]? = W.heap[b]?) (hP : ∀ b, P b → b < W.heap.size) : DaysAt P x ps fr to_ b1 b2 b3 b4 Ap cp W' := by
  have hk2 : ∀ p : Addr, P p.block → W'.cell? p = W.cell? p := fun p hp => World.cell?_of_block (hk _ hp (hP _ hp))
  exact ⟨h.p1, h.p2, h.p3, h.p4, (hk _ h.p1 h.k1.lt).trans h.k1, (hk _ h.p2 h.k2.lt).trans h.k2, (hk _ h.p3 h.k3.lt).trans h.k3, (hk _ h.p4 h.k4.lt).trans h.k4, h.cyc.keep hk2, h.ps.keep hk2⟩
/-- all persons allow a day -/
def allB (x : Alm) (ps : List DPs) (day : Int) : Bool := ps.all fun p => allowB x p.rules day
/-- the first n days from a day on that all persons allow -/
def daysN (x : Alm) (ps : List DPs) (fr : Int) (n : Nat) : List Int := ((List.range n).map fun i : Nat => fr + (i : Int)).filter (allB x ps)
def daysL (x : Alm) (ps : List DPs) (fr to_ : Int) : List Int := daysN x ps fr (to_ + 1 - fr).toNat
theorem daysN_succ (x : Alm) (ps : List DPs) (fr : Int) (n : Nat) : daysN x ps fr (n + 1) = daysN x ps fr n ++ (if allB x ps (fr + n) then [fr + n] else []) := by
  unfold daysN
  rw [List.range_succ, List.map_append, List.filter_append]
  congr 1
  simp [List.filter_cons]
theorem daysN_prefix (x : Alm) (ps : List DPs) (fr : Int) {n m : Nat} (h : n ≤ m) : ∃ t, daysN x ps fr m = daysN x ps fr n ++ t := by
  induction m with
  | zero => obtain rfl : n = 0 := by omega
            exact ⟨[], by simp⟩
  | succ m ih =>
    by_cases e : n = m + 1
    · subst e; exact ⟨[], by simp⟩
    · obtain ⟨t, ht⟩ := ih (by omega)
      exact ⟨t ++ _, by rw [daysN_succ, ht, List.append_assoc]⟩
theorem daysL_at (x : Alm) (ps : List DPs) (fr to_ : Int) {n : Nat} (h : fr + n ≤ to_) (ha : allB x ps (fr + n) = true) : (daysL x ps fr to_)[(daysN x ps fr n).length]? = some (fr + n) ∧ (daysN x ps fr n).length < (daysL x ps fr to_).length := by
  obtain ⟨t, ht⟩ := daysN_prefix x ps fr (n := n + 1) (m := (to_ + 1 - fr).toNat) (by omega)
  unfold daysL
  rw [ht, daysN_succ, if_pos ha]
  simp
/-- what the iterator over days keeps in its own blocks -/
structure DayD (P : Nat → Prop) (x : Alm) (ps : List DPs) (fr to_ : Int) (b1 b2 b3 b4 : Nat) (Ap : Option Addr) (cp : Nat) (z : Nat) (W : World) : Prop where
  at_ : DaysAt P x ps fr to_ b1 b2 b3 b4 Ap cp W
  z3 : 3 ≤ z
  lk : ∃ d0 sv mv, Blk W z (lkv (z - 3) d0 sv mv (z - 1)) 150
  alm : Blk W (z - 3) x.cells.toArray 28
  inb : Blk W (z - 2) #[.func (.func 99) #[] #[]] 144
  map : W.heap[z - 1]? = some (.map (lkMap (z - 2)) 7)
  box : Blk W (z + 1) #[.pointer (some ⟨z, 0, none⟩)] 118
  low : ∀ b, P b → b < z - 3
theorem DayD.lks {P : Nat → Prop} {x : Alm} {ps : List DPs} {fr to_ : Int} {b1 b2 b3 b4 : Nat} {Ap : Option Addr} {cp z : Nat} {W : World} (h : DayD P x ps fr to_ b1 b2 b3 b4 Ap cp z W) : LkS x z (z - 3) (z - 2) (z - 1) W := by
  obtain ⟨d0, sv, mv, hz⟩ := h.lk
  have := h.z3
  exact ⟨h.alm, h.at_.cyc.sl fun b hb => by have := h.low b hb; omega, h.inb, h.map, by omega, by omega, by omega, hz.lt⟩
theorem DayD.grown {P : Nat → Prop} {x : Alm} {ps : List DPs} {fr to_ : Int} {b1 b2 b3 b4 : Nat} {Ap : Option Addr} {cp z : Nat} {day : Int} {W W' : World} (h : DayD P x ps fr to_ b1 b2 b3 b4 Ap cp z W) (hd : LkD x z (z - 3) (z - 1) day W W') : DayD P x ps fr to_ b1 b2 b3 b4 Ap cp z W' := by
  have h3 := h.z3
  obtain ⟨_, _, _, hz⟩ := h.lk
  have hzl := hz.lt
  have hn : ∀ b : Nat, b ≠ z → some b ≠ some z := fun b hb e => hb (Option.some.inj e)
  obtain ⟨sv, mv, hg, -, -⟩ := hd.at_
  exact ⟨h.at_.keep (fun b hb hl => hd.gr.block b hl (hn b (by have := h.low b hb; omega))) (fun b hb => by have := h.low b hb; omega), h3, ⟨_, _, _, hg⟩, h.alm.grown hd.gr (hn _ (by omega)), h.inb.grown hd.gr (hn _ (by omega)),
    (hd.gr.block _ (by omega) (hn _ (by omega))).trans h.map, h.box.grown hd.gr (hn _ (by omega)), h.low⟩
/-- a block that is none of those is no matter -/
theorem DayD.keep {P : Nat → Prop} {x : Alm} {ps : List DPs} {fr to_ : Int} {b1 b2 b3 b4 : Nat} {Ap : Option Addr} {cp z : Nat} {W W' : World} (h : DayD P x ps fr to_ b1 b2 b3 b4 Ap cp z W) (hk : ∀ b, (P b ∨ (z - 3 ≤ b ∧ b ≤ z + 1)) → b < W.heap.size → W'.heap[b]? = W.heap[b]?) : DayD P x ps fr to_ b1 b2 b3 b4 Ap cp z W' := by
  obtain ⟨d0, sv, mv, hz⟩ := h.lk
  have hb := h.box.lt
  have h3 := h.z3
  exact ⟨h.at_.keep (fun b hp hl => hk b (.inl hp) hl) (fun b hp => by have := h.low b hp; omega), h3, ⟨d0, sv, mv, (hk _ (.inr (by omega)) hz.lt).trans hz⟩, (hk _ (.inr (by omega)) h.alm.lt).trans h.alm, (hk _ (.inr (by omega)) h.inb.lt).trans h.inb,
    (hk _ (.inr (by omega)) (by omega)).trans h.map, (hk _ (.inr (by omega)) hb).trans h.box, h.low⟩
theorem DayD.below {P : Nat → Prop} {x : Alm} {ps : List DPs} {fr to_ : Int} {b1 b2 b3 b4 : Nat} {Ap : Option Addr} {cp z : Nat} {W W' : World} (h : DayD P x ps fr to_ b1 b2 b3 b4 Ap cp z W) (hb : Below W.heap.size W W') : DayD P x ps fr to_ b1 b2 b3 b4 Ap cp z W' := h.keep fun b _ hl => hb.block b hl
theorem DayD.putObj {P : Nat → Prop} {x : Alm} {ps : List DPs} {fr to_ : Int} {b1 b2 b3 b4 : Nat} {Ap : Option Addr} {cp z b : Nat} {W : World} (o' : Obj) (h : DayD P x ps fr to_ b1 b2 b3 b4 Ap cp z W) (hz : b + 3 < z) (hP : ∀ b', P b' → b' < b) : DayD P x ps fr to_ b1 b2 b3 b4 Ap cp z (W.putObj b o') :=
  h.keep fun b' hb' _ => World.putObj_heap_other (by
    rcases hb' with hb' | hb'
    · have := hP b' hb'; omega
    · omega)
theorem ent_days11 : Ent 95 := ent_of (fn := Try.f95) (by kernel_rfl) (by kernel_rfl) (by kernel_rfl)
theorem ent_days1 : Ent 93 := ent_of (fn := Try.f93) (by kernel_rfl) (by kernel_rfl) (by kernel_rfl)
set_option maxRecDepth 100000 in
theorem days11_any (x : Alm) (z A f0 M lb : Nat) (day : Int) (p : DPs) (w : World) (hx : almB x = true) (d0 : 0 ≤ day) (d1 : day ≤ 1000000)
    (hs : LkS x z A f0 M w) (hd : LkD x z A M day w w) (hr : RlsAt w z p.a p.rules) (hv : ∀ r ∈ p.rules, badR x.cycles r = false) (hlb : Blk w lb #[.pointer (some ⟨z, 0, none⟩)] 118) :
    Calls Try.prog 95 #[.slice p.a p.rules.length p.c, .pointer (some ⟨lb, 0, none⟩)] w fun e w' => e = .returned (.bool (!allowB x p.rules day)) ∧ LkD x z A M day w w' := by
  have HC := Lib.hid (allows_any x z A f0 M day p.a p.c p.rules w hx d0 d1 hs hd hr hv)
  have c0 := hlb.cell 0
  simp at c0
  clear hs hd hr hv hlb
  go_enter Try.func95, Try.ntmps95
  go_wp2_with (go_at_call 96; refine HC.out.mono ?_; rintro _ W1 ⟨rfl, hd1⟩)
  go_ret
  exact ⟨rfl, hd1⟩
end Go.Proofs.Ytfbnllmmoaialaa
namespace Go.Proofs.Ytfbnllmmoaialaa
open Go.RowKit
attribute [local go_sem] Oper.semAt_some

/-- the day that round k is handed -/
def EncDay (L : List Int) (k : Nat) (_ : World) (xs : Array Value) : Prop := ∃ d, L[k]? = some d ∧ xs = #[.int .i64 d]
theorem all_any_not {α : Type} (p : α → Bool) (l : List α) : l.all p = !(l.any fun t => !p t) := by
  induction l with
  | nil => rfl
  | cons x l ih => rw [List.any_cons, List.all_cons, ih, Bool.not_or, Bool.not_not]
set_option maxRecDepth 100000 in
set_option maxHeartbeats 4000000 in
theorem days1_iter (P : Nat → Prop) (x : Alm) (ps : List DPs) (fr to_ : Int) (b1 b2 b3 b4 : Nat) (Ap : Option Addr) (cp B : Nat) (hx : almB x = true) (h0f : 0 ≤ fr) (hto : to_ ≤ 1000000) (hle : fr ≤ to_ + 1) (hbad : ∀ p ∈ ps, ∀ r ∈ p.rules, badR x.cycles r = false) (hP : ∀ b, P b → b < B) :
    IterZ 93 #[.pointer (some ⟨b1, 0, none⟩), .pointer (some ⟨b2, 0, none⟩), .pointer (some ⟨b3, 0, none⟩), .pointer (some ⟨b4, 0, none⟩)] 3 (fun W => B ≤ W.heap.size ∧ DaysAt P x ps fr to_ b1 b2 b3 b4 Ap cp W) (DayD P x ps fr to_ b1 b2 b3 b4 Ap cp) (EncDay (daysL x ps fr to_)) (daysL x ps fr to_).length := by
  intro l J J0 Jx W hJ0s hJs hJz hJxs hJ0D hst hY h0
  obtain ⟨hBW, hD⟩ := hJ0D W h0
  have HJs := Lib.hid hJs; have HJz := Lib.hid hJz; have HY := Lib.hid hY; have HBAD := Lib.hid hbad; have HP := Lib.hid hP
  have HST := Lib.hid hst; have HJ0 := Lib.hid (fun W' (hb : Below W.heap.size W W') => hJ0s W W' h0 hb)
  have HN := Lib.hid (newLook_any x W (hD.cyc.sl fun b hb => by have := hP b hb; omega))
  have HDA := Lib.hid hD
  have k1 := hD.k1; have k2 := hD.k2
  have hle' : ∃ N : Nat, (N : Int) = to_ + 1 - fr := ⟨(to_ + 1 - fr).toNat, by omega⟩
  obtain ⟨N, hN⟩ := hle'
  obtain ⟨A, c, cl, ⟨e, b, u⟩, ⟨d, p, f, m, y, s, k⟩⟩ := x
  obtain ⟨X, hX⟩ : ∃ X, X = (⟨A, c, cl, ⟨e, b, u⟩, ⟨d, p, f, m, y, s, k⟩⟩ : Alm) := ⟨_, rfl⟩
  rw [← hX] at HY HDA HBAD HST hx
  rw [← hX]
  have HXX := Lib.hid hX
  have HNN : Hid (Calls Try.prog 74 #[.agg #[.slice A cl.length c, .int .i64 e, .int .i64 b, .int .i64 u, .int .i64 d, .int .i64 p, .int .i64 f, .int .i64 m, .int .i64 y, .int .i64 s, .int .i64 k]] W fun e w' => e = .returned (.pointer (some ⟨W.heap.size + 3, 0, none⟩)) ∧ LkS X (W.heap.size + 3) W.heap.size (W.heap.size + 1) (W.heap.size + 2) w' ∧ Blk w' (W.heap.size + 3) (lkv W.heap.size 0 (.pointer none) (.pointer none) (W.heap.size + 2)) 150 ∧ Below W.heap.size W w' ∧ w'.heap.size = W.heap.size + 4) := by rw [hX]; exact HN.out
  simp only [Alm.cells] at k1
  have c0 := k1.cell 0; have c1 := k1.cell 1; have c2 := k1.cell 2; have c3 := k1.cell 3; have c4 := k1.cell 4; have c5 := k1.cell 5; have c6 := k1.cell 6; have c7 := k1.cell 7; have c8 := k1.cell 8; have c9 := k1.cell 9; have c10 := k1.cell 10
  have f0 := k2.cell 0
  simp at c0 c1 c2 c3 c4 c5 c6 c7 c8 c9 c10 f0
  have hk2l := k2.lt
  clear k1 k2 hD hJ0D hJ0s hJs hJz hY hbad hst h0 HN hX hP hJxs
  rw [← callsIn_wide (n := 2)]
  refine callsIn_of_wp Try.func93 rfl trivial ?_ rfl
  simp only [Try.ntmps93, List.size_toArray, List.length_cons, List.length_nil, Nat.reduceAdd, Nat.reduceSub, Array.replicate_succ, Array.replicate_zero, List.push_toArray, List.append_toArray, List.nil_append, List.cons_append]
  gi_wp2
  refine ⟨trivial, (callsIn_wide.2 HNN.out).mono ?_⟩
  rintro e w1 ⟨rfl, hs1, hz1, hb1, hsz1⟩
  have f1 := ((bcell hb1).1 b2 0 hk2l).trans f0
  have hb2l : b2 < w1.heap.size := Nat.lt_of_lt_of_le hk2l hb1.size
  have HS1 := Lib.hid hs1; have HZ1 := Lib.hid hz1; have HB1 := Lib.hid hb1; have HSZ1 := Lib.hid hsz1
  clear hs1 hz1 hb1 hsz1 c0 c1 c2 c3 c4 c5 c6 c7 c8 c9 c10 f0
  gi_wp2
  obtain ⟨z, hz⟩ : ∃ z, z = W.heap.size + 3 := ⟨_, rfl⟩
  have hsz : w1.heap.size = z + 1 := by rw [HSZ1.out, hz]
  rw [hsz, ← hz]
  obtain ⟨w2, hw2⟩ : ∃ w2, w2 = w1.alloc (.cells #[.pointer (some ⟨z, 0, none⟩)] 118) := ⟨_, rfl⟩
  rw [← hw2]
  have HB2 : Hid (Below W.heap.size W w2) := by rw [hw2]; exact HB1.out.alloc (by have := HB1.out.size; omega) _
  have HD2 : Hid (DayD P X ps fr to_ b1 b2 b3 b4 Ap cp z w2) := by
    have h1 := HS1.out; have h2 := HZ1.out
    rw [← hz] at h1 h2
    refine ⟨HDA.out.keep (fun b hb hl => HB2.out.block b hl) (fun b hb => by have := HP.out b hb; omega), by omega, ⟨0, .pointer none, .pointer none, ?_⟩, ?_, ?_, ?_, ?_, fun b hb => by have := HP.out b hb; omega⟩
    · rw [hw2, show z - 3 = W.heap.size by omega, show z - 1 = W.heap.size + 2 by omega]; exact h2.alloc _
    · rw [hw2, show z - 3 = W.heap.size by omega]; exact h1.alm.alloc _
    · rw [hw2, show z - 2 = W.heap.size + 1 by omega]; exact h1.inb.alloc _
    · rw [hw2, show z - 2 = W.heap.size + 1 by omega, show z - 1 = W.heap.size + 2 by omega]; exact (Below.heap_alloc _ _ _ (by omega)).trans h1.map
    · rw [hw2]; exact Blk.at_ hsz.symm
  have HJ2 : Hid (J z 0 w2) := HST.out z w2 (by omega) (by rw [hw2]; simp; omega) HD2.out (HJ0.out w2 HB2.out)
  have hzW : W.heap.size + 3 ≤ z := by omega
  clear HS1 HZ1 HB1 HSZ1 hz hsz hw2 f1 hk2l hb2l HJ0 HST HNN HB2 HDA
  gi_loopw [7] (fun i wr => ∃ n : Nat, n ≤ N ∧ i = .int .i64 (fr + (n : Int)) ∧ Hid (J z (daysN X ps fr n).length wr ∧ DayD P X ps fr to_ b1 b2 b3 b4 Ap cp z wr)) (fun i _ => (to_ + 1 - intOf i).toNat)
  case atStart => exact ⟨0, by omega, by simp, HJ2.out, HD2.out⟩
  case round =>
    obtain ⟨n, hn, rfl, hj⟩ := hrel
    have k3 := hj.out.2.at_.k3.cell 0
    simp at k3
    by_cases hlt : n < N
    · have hc : decide (fr + (n : Int) ≤ to_) = true := by simp; omega
      obtain ⟨D, hDD⟩ : ∃ D, D = fr + (n : Int) := ⟨_, rfl⟩
      have hD0 : 0 ≤ D := by omega
      have hD1 : D ≤ 1000000 := by omega
      have hDn : D ≤ to_ := by omega
      have hw1 : IntKind.i64.wrap (D + 1) = D + 1 := IntWalk.i64_in _ ⟨by omega, by omega⟩
      obtain ⟨d0, sv, mv, gz⟩ := hj.out.2.lk
      have HAT := Lib.hid (lkAt_any X z (z - 3) (z - 1) d0 D sv mv wr gz)
      have kb := hj.out.2.box.cell 0
      simp at kb
      have HDN := Lib.hid hDD
      rw [← hDD] at hc ⊢
      have hzz := gz.lt
      have hbz : z + 1 < wr.heap.size := hj.out.2.box.lt
      clear hDD gz
      gi_wp2
      refine ⟨trivial, (callsIn_wide.2 HAT.out).mono ?_⟩
      rintro e w3 ⟨rfl, hd3⟩
      have hD3 := hj.out.2.grown hd3
      have HJ3 := Lib.hid (HJz.out z _ wr w3 (by omega) hj.out.1 hd3.gr)
      have k4 := hD3.at_.k4.cell 0
      simp at k4
      obtain ⟨v, hv⟩ : ∃ v, v = ps.any fun p => !allowB X p.rules D := ⟨_, rfl⟩
      have hva : allB X ps D = !v := by
        rw [hv]; unfold allB
        exact all_any_not _ ps
      have HC := Lib.hid (panyI_any 95 #[.pointer (some ⟨z + 1, 0, none⟩)] Ap cp ps (fun p => !allowB X p.rules D) w3 (fun W' => LkD X z (z - 3) (z - 1) D w3 W') ent_days11 hD3.at_.ps.len
        (fun W' h => ((hD3.grown h).at_.ps.sl.sl fun b hb => by have := hD3.low b hb; have := hd3.gr.size; have := h.gr.size; omega))
        (fun p hp W' h => days11_any X z (z - 3) (z - 2) (z - 1) (z + 1) D p W' hx hD0 hD1 (hD3.grown h).lks h.self ((hD3.grown h).at_.ps.rls (fun b hb => by have := hD3.low b hb; omega) p hp) (HBAD.out p hp) (hD3.grown h).box |>.mono
          fun e W2 ⟨he, hh⟩ => ⟨he, hh.base h.gr⟩) hd3.self)
      rw [← hv] at HC
      have hsu := daysN_succ X ps fr n
      have hLat := fun h => daysL_at X ps fr to_ (n := n) (by have := HDN.out; omega) h
      rw [← HDN.out] at hsu hLat
      have HVA := Lib.hid hva; have HSU := Lib.hid hsu; have HLAT := Lib.hid hLat; have HD3 := Lib.hid hD3
      clear hv hva hsu hLat hD3 hd3 HAT hj k3 kb
      cases v with
      | true =>
        have HS2 : Hid (daysN X ps fr (n + 1) = daysN X ps fr n) := (by rw [HSU.out, HVA.out]; simp : daysN X ps fr (n + 1) = daysN X ps fr n)
        gi_wp2
        refine ⟨trivial, (callsIn_wide.2 HC.out).mono ?_⟩
        rintro e w4 ⟨rfl, hd4⟩
        have HD4 := Lib.hid (HD3.out.grown hd4)
        have HJ4 := Lib.hid (HJz.out z _ w3 w4 (by omega) HJ3.out hd4.gr)
        clear hd4 k4
        gi_wp2
        refine ⟨fun f h => (by cases h), ?_⟩
        gi_wp2
        go_roundw
        case rel => exact ⟨n + 1, by omega, by rw [HDN.out]; go_num, by rw [HS2.out]; exact HJ4.out, HD4.out⟩
        case measure => simp [intOf]; omega
      | false =>
        gi_wp2
        refine ⟨trivial, (callsIn_wide.2 HC.out).mono ?_⟩
        rintro e w4 ⟨rfl, hd4⟩
        have HD4 := Lib.hid (HD3.out.grown hd4)
        have HJ4 := Lib.hid (HJz.out z _ w3 w4 (by omega) HJ3.out hd4.gr)
        obtain ⟨hL1, hL2⟩ := HLAT.out (by rw [HVA.out]; rfl)
        have HS2 : Hid ((daysN X ps fr (n + 1)).length = (daysN X ps fr n).length + 1) := (by rw [HSU.out, HVA.out]; simp : (daysN X ps fr (n + 1)).length = _)
        obtain ⟨fn, tmps, assign, body, hy, hR⟩ := HY.out z _ w4 #[.int .i64 D] (by omega) hL2 HJ4.out HD4.out ⟨D, hL1, rfl⟩
        have HRR := Lib.hid hR
        clear hd4 k4 hL1 hL2 hR
        gi_wp2
        refine HRR.out.mono ?_
        rintro e W5 (⟨rfl, hJ5, hD5⟩ | ⟨rfl, hJx5⟩)
        · have HJ5 := Lib.hid hJ5; have HD5 := Lib.hid hD5
          clear hJ5 hD5
          gi_wp2
          go_roundw
          case rel => exact ⟨n + 1, by omega, by rw [HDN.out]; go_num, by rw [HS2.out]; exact HJ5.out, HD5.out⟩
          case measure => simp [intOf]; omega
        · have HJ5 := Lib.hid hJx5
          clear hJx5
          gi_wp2
          refine bodyPost_ret (results_none rfl _ _ _) rfl ?_
          exact ⟨⟨_, rfl⟩, .inr HJ5.out⟩
    · obtain rfl : n = N := by omega
      have hc : decide (fr + (n : Int) ≤ to_) = false := by simp; omega
      have HL : Hid ((daysL X ps fr to_).length = (daysN X ps fr n).length) := (by unfold daysL; rw [show (to_ + 1 - fr).toNat = n by omega] : _ = _)
      gi_wp2
      go_end0
      exact ⟨⟨_, rfl⟩, .inl ⟨z, hzW, by rw [HL.out]; exact hj.out.1⟩⟩
end Go.Proofs.Ytfbnllmmoaialaa

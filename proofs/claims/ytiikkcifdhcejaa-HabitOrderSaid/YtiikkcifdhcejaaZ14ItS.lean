/- Ranges over functions that keep some blocks of their own between two rounds, old ones and new ones: a contract for such iterators, and one law for the caller. -/
import Derived.Test.YtiikkcifdhcejaaZ00Mem
import Derived.Test.YtiikkcifdhcejaaWi
namespace Go.Proofs.Ytiikkcifdhcejaa
open Go.RowKit

/-- what holds of a world holds when a block of P, or a block from B on that is no cells, has turned, or blocks have come -/
def StabP (B : Nat) (P : Nat → Prop) (I : World → Prop) : Prop :=
  ∀ W W' row, I W → W.grownBy W' row → (∀ r, row = some r → B ≤ r ∧ (P r ∨ ∃ o : Obj, W.heap[r]? = some o ∧ o.isCells = false)) → I W'
section
variable {B : Nat} {P : Nat → Prop}
theorem StabP.stab {I : World → Prop} (h : StabP B P I) : Stab B I := fun W W' row hi hg hr => h W W' row hi hg fun r e => ⟨(hr r e).1, .inr (hr r e).2⟩
theorem StabP.and {I I' : World → Prop} (h : StabP B P I) (h' : StabP B P I') : StabP B P (fun W => I W ∧ I' W) := fun W W' row hs hg hr => ⟨h W W' row hs.1 hg hr, h' W W' row hs.2 hg hr⟩
theorem StabP.pure (p : Prop) : StabP B P (fun _ => p) := fun _ _ _ h _ _ => h
theorem StabP.ex {α : Type} {I : α → World → Prop} (h : ∀ x, StabP B P (I x)) : StabP B P (fun W => ∃ x, I x W) := fun W W' row ⟨x, hx⟩ hg hr => ⟨x, h x W W' row hx hg hr⟩
theorem StabP.low {b : Nat} (hb : b ≤ B) (w : World) (hw : b ≤ w.heap.size) : StabP B P (fun W => Below b w W) := fun W W' row hs hg hr =>
  hs.grown hg (Nat.le_trans hw hs.size) (fun k e => Nat.le_trans hb (hr k e).1)
theorem StabP.blk (b : Nat) (hb : ¬ P b) (cs : Array Value) (t : TypeId) (f : Nat × Nat) : StabP B P (fun W => W.heap[b]? = some (.cells cs t f)) := fun W W' row hs hg hr => by
  refine (hg.block b (Array.getElem?_eq_some_iff.1 hs).1 fun e => ?_).trans hs
  rcases (hr b e.symm).2 with h | ⟨o, ho, hc⟩
  · exact hb h
  · rw [hs] at ho; cases ho; cases hc
theorem StabP.size {n : Nat} : StabP B P (fun W => n ≤ W.heap.size) := fun _ _ _ hs hg _ => Nat.le_trans hs hg.size
end
/-- THE ITERATOR: it has blocks of its own, blk s, of which D tells; they may be others from round to round, if they are new ones; round k is handed what Enc says. -/
def IterS {S : Type} (blk : S → Nat → Prop) (gf : Nat) (lb : Array Value) (D0 : World → Prop) (D : S → World → Prop) (Enc : Nat → World → Array Value → Prop) (N : Nat) : Prop :=
  ∀ (l : Nat) (J : S → Nat → World → Prop) (J0 Jx : World → Prop) (W : World),
    (∀ W W', J0 W → Below W.heap.size W W' → J0 W') →
    (∀ s s' k V V', J s k V → Below V.heap.size V V' → (∀ r, blk s' r → blk s r ∨ V.heap.size ≤ r) → J s' k V') →
    (∀ s k V V' r, W.heap.size ≤ r → blk s r → J s k V → V.grownBy V' (some r) → J s k V') →
    (∀ V V', Jx V → Below V.heap.size V V' → Jx V') → (∀ V, J0 V → D0 V) →
    (∀ s V, (∀ r, blk s r → W.heap.size ≤ r) → D s V → J0 V → J s 0 V) →
    (∀ s k V xs, (∀ r, blk s r → W.heap.size ≤ r) → k < N → J s k V → D s V → Enc k V xs → YieldAt Fence.wide 1 Try.prog l xs V fun e V' => (e = .returned (.bool true) ∧ J s (k + 1) V' ∧ D s V') ∨ (e = .returned (.bool false) ∧ Jx V')) →
    J0 W → Calls Try.prog gf (#[.func (.yield l) #[] #[]] ++ lb) W fun e W' => (∃ v, e = .returned v) ∧ ((∃ s, (∀ r, blk s r → W.heap.size ≤ r) ∧ J s N W') ∨ Jx W')

theorem wp_rangeP {g : Operand} {ps : Array Tmp} {assign body : Code} {Q : Exit → Act → World → Prop} {a : Act} {w : World} {gf : Nat} {lb : Array Value}
    (hg : a.eval g = .func (.func gf) #[] lb) (eg : Ent gf) {S : Type} {blk : S → Nat → Prop} {D0 : World → Prop} {D : S → World → Prop} {Enc : Nat → World → Array Value → Prop} {N : Nat} (hit : IterS blk gf lb D0 D Enc N)
    (I : S → Nat → World → Prop) (Ix : Code → World → Prop) (Ax : S → Nat → Act → World → Prop)
    (hI : ∀ z k, (∀ r, blk z r → w.heap.size + 1 < r) → StabP w.heap.size (blk z) (I z k)) (hIm : ∀ z z' k V V', I z k V → Below V.heap.size V V' → (∀ r, blk z' r → blk z r ∨ V.heap.size ≤ r) → I z' k V') (hIx : ∀ c, Stab w.heap.size (Ix c)) (hDs : ∀ z W b o', (∀ r, blk z r → w.heap.size + 1 < r) → w.heap.size ≤ b → b ≤ w.heap.size + 1 → D z W → D z (W.putObj b o')) (hAx : ∀ z k a₁ W b o o', (∀ r, blk z r → w.heap.size + 1 < r) → w.heap.size ≤ b → b ≤ w.heap.size + 1 → W.heap[b]? = some o → o.isCells = false → Ax z k a₁ W → Ax z k a₁ (W.putObj b o'))
    (hD0 : ∀ W, Below w.heap.size w W → D0 W) (h0 : ∀ z W, (∀ r, blk z r → w.heap.size + 1 < r) → Below w.heap.size w W → I z 0 W)
    (hps : ∀ k W xs, k < N → Enc k W xs → xs.size = ps.size)
    (hassign : ∀ l z k xs W, (∀ r, blk z r → w.heap.size + 1 < r) → k < N → I z k W → D z W → Enc k W xs → w.heap.size < l → l < w.heap.size + 2 → assign.wpIn (Fence.wide.inRound l) 1 Try.prog (assignOut w.heap.size (Ax z k) W) { tmps := (ps.zip xs).foldl (fun t (p, v) => t.setIfInBounds p v) a.tmps, defers := [] } W)
    (hbody : ∀ l z k a₁ W, (∀ r, blk z r → w.heap.size + 1 < r) → k < N → Ax z k a₁ W → w.heap.size < l → l < w.heap.size + 2 → body.wpIn (Fence.wide.inRound l) 1 Try.prog (roundOut w.heap.size (fun W' => I z (k + 1) W' ∧ D z W') Ix W) a₁ W)
    (hdone : ∀ z D W, (∀ r, blk z r → w.heap.size + 1 < r) → I z N W → w.heap.size ≤ D → W.heap[D]? = some (.deferred (some [])) → Q .normal { a with defers := { target := .collected D, args := #[] } :: a.defers } W)
    (hstop : ∀ D c W, Ix c W → w.heap.size ≤ D → W.heap[D]? = some (.deferred (some [])) → c.wp Try.prog Q { a with defers := { target := .collected D, args := #[] } :: a.defers } W) :
    (Code.rangeFunc g ps assign body).wp Try.prog Q a w := by
  rw [← wpIn_wide (n := 2)]
  refine wpIn_rangeFunc ?_
  intro fn hfn
  have hro : Fence.wide.round = none := rfl
  rw [hro]
  obtain ⟨rec, hrec⟩ : ∃ rec : LoopState → Option Code → Loop, rec = fun st pe => { state := st, pending := pe, fn, tmps := a.tmps, params := ps, assign, body, defers := w.heap.size } := ⟨_, rfl⟩
  obtain ⟨W1, hW1⟩ : ∃ W1, (w.alloc (.deferred (some []))).alloc (.loop (rec .ready none)) = W1 := ⟨_, rfl⟩
  have hL1 : W1.heap[w.heap.size + 1]? = some (.loop (rec .ready none)) := by
    rw [← hW1]; have := World.alloc_heap_new (w.alloc (.deferred (some []))) (.loop (rec .ready none)); rwa [World.size_alloc] at this
  have hK1 : W1.heap[w.heap.size]? = some (.deferred (some [])) := by
    rw [← hW1]; exact (Below.heap_alloc _ _ _ (by simp)).trans (World.alloc_heap_new w _)
  have hb1 : Below w.heap.size w W1 := by rw [← hW1]; exact ((Below.refl _ w).alloc (Nat.le_refl _) _).alloc (by simp) _
  have hz1 : W1.heap.size = w.heap.size + 2 := by rw [← hW1]; simp
  have keepL : ∀ {W W' : World} {k : Nat} {o : Obj}, Below W.heap.size W W' → W.heap[k]? = some o → W'.heap[k]? = some o := fun hb ho => (hb.block _ (Array.getElem?_eq_some_iff.1 ho).1).trans ho
  refine ⟨w.heap.size + 1, [{ target := .collected w.heap.size, args := #[] }], W1, { target := .fn (.func gf) lb, args := #[.func (.yield (w.heap.size + 1)) #[] #[]] }, W1, gf,
    #[.func (.yield (w.heap.size + 1)) #[] #[]] ++ lb, W1, ?_, ?_, ?_, ?_, fun _ => by omega, ?_⟩
  · rw [← hW1, hrec]; exact run_enterLoop_outer _ _ _ _ _
  · simp only [resolve, hg]
    simp [go_sem]
  · intro f' hf'; trivial
  · simp [invoke, go_sem, eg _ _]
  · refine callsIn_wide.2 ?_
    refine (hit (w.heap.size + 1)
      (fun z k W => (∀ r, blk z r → w.heap.size + 1 < r) ∧ I z k W ∧ W.heap[w.heap.size + 1]? = some (.loop (rec .ready none)) ∧ W.heap[w.heap.size]? = some (.deferred (some [])))
      (fun W => Below w.heap.size w W ∧ W.heap[w.heap.size + 1]? = some (.loop (rec .ready none)) ∧ W.heap[w.heap.size]? = some (.deferred (some [])))
      (fun W => ∃ c, Ix c W ∧ W.heap[w.heap.size + 1]? = some (.loop (rec .done (some c))) ∧ W.heap[w.heap.size]? = some (.deferred (some [])))
      W1 (fun W W' h hb => ⟨h.1.trans (hb.mono h.1.size), keepL hb h.2.1, keepL hb h.2.2⟩)
      (fun z z' k W W' h hb hm => ⟨fun r hr => (hm r hr).elim (h.1 r) (fun h9 => by have := (Array.getElem?_eq_some_iff.1 h.2.2.1).1; omega), hIm z z' k W W' h.2.1 hb hm, keepL hb h.2.2.1, keepL hb h.2.2.2⟩)
      (fun z k W W' q hq hbq h hg => ⟨h.1, hI z k h.1 W W' (some q) h.2.1 hg (fun r e => by cases e; exact ⟨by omega, .inl hbq⟩),
        (hg.block _ (Array.getElem?_eq_some_iff.1 h.2.2.1).1 (by intro e; have := Option.some.inj e; have := h.1 q hbq; omega)).trans h.2.2.1,
        (hg.block _ (Array.getElem?_eq_some_iff.1 h.2.2.2).1 (by intro e; have := Option.some.inj e; have := h.1 q hbq; omega)).trans h.2.2.2⟩)
      (fun W W' ⟨c, h⟩ hb => ⟨c, (hIx c).below h.1 hb, keepL hb h.2.1, keepL hb h.2.2⟩) (fun W h => hD0 W h.1)
      (fun z W hz _ h => ⟨fun r hr => by have := hz r hr; omega, h0 z W (fun r hr => by have := hz r hr; omega) h.1, h.2.1, h.2.2⟩) ?_ ⟨hb1, hL1, hK1⟩).mono ?_
    · rintro z k W xs hz hk ⟨hzz, hi, hl, hkk⟩ hd henc
      have hlt : w.heap.size + 1 < W.heap.size := (Array.getElem?_eq_some_iff.1 hl).1
      have hy := run_yield (P := Try.prog) (args := xs) hl (by rw [hrec]; exact hps k W xs hk henc)
      rw [hrec] at hy
      refine ⟨fn, _, assign, body, hy, roundIn_of_wpIn hfn (wpIn_mono (hassign _ z k xs W hzz hk hi hd henc (by omega) (by omega)) ?_)⟩
      intro e a₁ W2 hp
      cases e with
      | normal =>
        obtain ⟨hkf, hax⟩ := hp
        have hl2 := hkf.same _ _ (by omega) hl rfl
        have hk2 := hkf.same _ _ (Nat.le_refl _) hkk rfl
        refine ⟨_, run_beginRound hl2 (by rw [hrec]), ?_⟩
        have hlt2 : w.heap.size + 1 < W2.heap.size := (Array.getElem?_eq_some_iff.1 hl2).1
        have hl3 : (W2.putObj (w.heap.size + 1) (.loop { rec .ready none with state := .busy })).heap[w.heap.size + 1]? = some (.loop { rec .ready none with state := .busy }) := World.putObj_heap_same hlt2
        have hk3 : (W2.putObj (w.heap.size + 1) (.loop { rec .ready none with state := .busy })).heap[w.heap.size]? = some (.deferred (some [])) := (World.putObj_heap_other (by omega)).trans hk2
        refine wpIn_mono (hbody _ z k a₁ _ hzz hk (hAx z k a₁ _ _ _ _ hzz (by omega) (by omega) hl2 rfl hax) (by omega) (by omega)) ?_
        have fin : ∀ (jump : Option Code) (W3 : World), KeepsFrom w.heap.size (W2.putObj (w.heap.size + 1) (.loop { rec .ready none with state := .busy })) W3 →
            (Instr.endRound (w.heap.size + 1) jump).run Try.prog W3 = .ok (.bool jump.isNone) (W3.putObj (w.heap.size + 1) (.loop (rec (if jump.isNone then .ready else .done) jump))) ∧
            W3.heap[w.heap.size + 1]? = some (.loop { rec .ready none with state := .busy }) ∧
            (W3.putObj (w.heap.size + 1) (.loop (rec (if jump.isNone then .ready else .done) jump))).heap[w.heap.size + 1]? = some (.loop (rec (if jump.isNone then .ready else .done) jump)) ∧
            (W3.putObj (w.heap.size + 1) (.loop (rec (if jump.isNone then .ready else .done) jump))).heap[w.heap.size]? = some (.deferred (some [])) := fun jump W3 hk4 => by
          have hl4 := hk4.same _ _ (by omega) hl3 rfl
          have := run_endRound (P := Try.prog) jump hl4
          rw [hrec] at this ⊢
          exact ⟨this, by rw [hrec] at hl4; exact hl4, World.putObj_heap_same (Array.getElem?_eq_some_iff.1 hl4).1, (World.putObj_heap_other (by omega)).trans (hk4.same _ _ (Nat.le_refl _) hk3 rfl)⟩
        rintro e a3 W3 hp
        cases e with
        | normal =>
          obtain ⟨hk4, hi3, hd3⟩ := hp
          obtain ⟨hr, hl4, hl5, hk5⟩ := fin none W3 hk4
          exact ⟨_, _, hr, .inl ⟨rfl, ⟨hzz, (hI z _ hzz).stab.putObj _ hi3 (by omega) hl4 rfl, hl5, hk5⟩, hDs z _ _ _ hzz (by omega) (by omega) hd3⟩⟩
        | ret =>
          obtain ⟨hk4, hi3⟩ := hp
          obtain ⟨hr, hl4, hl5, hk5⟩ := fin (some .ret) W3 hk4
          exact ⟨_, _, hr, .inr ⟨rfl, .ret, (hIx _).putObj _ hi3 (by omega) hl4 rfl, hl5, hk5⟩⟩
        | exit id =>
          obtain ⟨hk4, hi3⟩ := hp
          obtain ⟨hr, hl4, hl5, hk5⟩ := fin (some (.exit id)) W3 hk4
          exact ⟨_, _, hr, .inr ⟨rfl, .exit id, (hIx _).putObj _ hi3 (by omega) hl4 rfl, hl5, hk5⟩⟩
        | goto t =>
          obtain ⟨hk4, hi3⟩ := hp
          obtain ⟨hr, hl4, hl5, hk5⟩ := fin (some (.goto t)) W3 hk4
          exact ⟨_, _, hr, .inr ⟨rfl, .goto t, (hIx _).putObj _ hi3 (by omega) hl4 rfl, hl5, hk5⟩⟩
        | panic ch => exact hp.elim
        | outgrown => exact hp.elim
      | ret => exact hp.elim
      | exit id => exact hp.elim
      | goto t => exact hp.elim
      | panic ch => exact hp.elim
      | outgrown => exact hp.elim
    · rintro e W2 ⟨⟨v, rfl⟩, (⟨z, -, hzz, hi, hl, hkk⟩ | ⟨c, hi, hl, hkk⟩)⟩
      · exact ⟨none, _, by have := run_endLoop (P := Try.prog) hl (by rw [hrec]; simp); rw [hrec] at this; exact this, hdone z _ _ hzz ((hI z _ hzz).stab.putObj _ hi (by omega) hl rfl) (Nat.le_refl _) ((World.putObj_heap_other (by omega)).trans hkk)⟩
      · exact ⟨some c, _, by have := run_endLoop (P := Try.prog) hl (by rw [hrec]; simp); rw [hrec] at this; exact this, wpIn_wide.2 (hstop _ c _ ((hIx c).putObj _ hi (by omega) hl rfl) (Nat.le_refl _) ((World.putObj_heap_other (by omega)).trans hkk))⟩

theorem wp_rangeSP {g : Operand} {ps : Array Tmp} {assign body : Code} {Q : Exit → Act → World → Prop} {a : Act} {w : World} {gf : Nat} {lb : Array Value}
    (hg : a.eval g = .func (.func gf) #[] lb) (eg : Ent gf) {S : Type} {blk : S → Nat → Prop} {D0 : World → Prop} {D : S → World → Prop} {Enc : Nat → World → Array Value → Prop} {N : Nat} (hit : IterS blk gf lb D0 D Enc N)
    (sl : List (Tmp × Nat)) (I : S → Nat → World → Prop) (Ix : Code → World → Prop)
    (hI : ∀ z k, (∀ r, blk z r → w.heap.size + 1 < r) → StabP w.heap.size (blk z) (I z k)) (hIm : ∀ z z' k V V', I z k V → Below V.heap.size V V' → (∀ r, blk z' r → blk z r ∨ V.heap.size ≤ r) → I z' k V') (hIx : ∀ c, Stab w.heap.size (Ix c)) (hDs : ∀ z W b o', (∀ r, blk z r → w.heap.size + 1 < r) → w.heap.size ≤ b → b ≤ w.heap.size + 1 → D z W → D z (W.putObj b o')) (hE : ∀ k xs, Stab w.heap.size (fun W => Enc k W xs))
    (hD0 : ∀ W, Below w.heap.size w W → D0 W) (h0 : ∀ z W, (∀ r, blk z r → w.heap.size + 1 < r) → Below w.heap.size w W → I z 0 W)
    (hps : ∀ k W xs, Enc k W xs → xs.size = ps.size)
    (hassign : ∀ l k xs W (K : Act → World → Prop), Enc k W xs → K (roundAct a.tmps ps sl xs) W → assign.wpIn (Fence.wide.inRound l) 1 Try.prog (Exit.then K (fun _ _ _ => False)) { tmps := (ps.zip xs).foldl (fun t (p, v) => t.setIfInBounds p v) a.tmps, defers := [] } W)
    (hbody : ∀ l z k xs W, (∀ r, blk z r → w.heap.size + 1 < r) → k < N → I z k W → D z W → Enc k W xs → w.heap.size < l → l < w.heap.size + 2 → body.wpIn (Fence.wide.inRound l) 1 Try.prog (roundOut w.heap.size (fun W' => I z (k + 1) W' ∧ D z W') Ix W) (roundAct a.tmps ps sl xs) W)
    (hdone : ∀ z D W, (∀ r, blk z r → w.heap.size + 1 < r) → I z N W → w.heap.size ≤ D → W.heap[D]? = some (.deferred (some [])) → Q .normal { a with defers := { target := .collected D, args := #[] } :: a.defers } W)
    (hstop : ∀ D c W, Ix c W → w.heap.size ≤ D → W.heap[D]? = some (.deferred (some [])) → c.wp Try.prog Q { a with defers := { target := .collected D, args := #[] } :: a.defers } W) :
    (Code.rangeFunc g ps assign body).wp Try.prog Q a w := by
  refine wp_rangeP hg eg hit I Ix (fun z k a₁ W => I z k W ∧ D z W ∧ ∃ xs, Enc k W xs ∧ a₁ = roundAct a.tmps ps sl xs) hI hIm hIx hDs (fun z k a₁ W b o o' hz h1 h2 ho hoc ⟨hi, hd, xs, he, e⟩ => ⟨(hI z k hz).stab.putObj _ hi h1 ho hoc, hDs z _ _ _ hz h1 h2 hd, xs, (hE k xs).putObj _ he h1 ho hoc, e⟩) hD0 h0
    (fun k W xs _ h => hps k W xs h) (fun l z k xs W hz hk hi hd he _ _ => ?_) (fun l z k a₁ W hz hk hax h1 h2 => ?_) hdone hstop
  · refine wpIn_mono (hassign l k xs W (fun a₁ W' => a₁ = roundAct a.tmps ps sl xs ∧ W' = W) he ⟨rfl, rfl⟩) ?_
    intro e a₁ W' hp
    cases e with
    | normal => obtain ⟨rfl, rfl⟩ := hp; exact ⟨KeepsFrom.refl _ _, hi, hd, xs, he, rfl⟩
    | ret => exact hp.elim
    | exit id => exact hp.elim
    | goto t => exact hp.elim
    | panic ch => exact hp.elim
    | outgrown => exact hp.elim
  · obtain ⟨hi, hd, xs, he, rfl⟩ := hax
    exact hbody l z k xs W hz hk hi hd he h1 h2
end Go.Proofs.Ytiikkcifdhcejaa
namespace Go.Proofs.Ytiikkcifdhcejaa
open Go.RowKit

/-- the type of a hand -/
def hT (k : Int) : TypeId := if k = 1 then 130 else if k = 2 then 124 else 127
/-- the value of a hand -/
def hv (k : Int) (h : Nat) : Value := .iface (hT k) (.pointer (some ⟨h, 0, none⟩))
/-- the function that casts by a hand -/
def castF (k : Int) : Nat := if k = 1 then 127 else if k = 2 then 124 else 125
theorem HandV.val {x : Md} {r0 : LL} {st : HSt} {h lb : Nat} {v : Value} {W : World} (hh : HandV x r0 st h lb v W) : v = hv x.kind h := by
  rcases hh with ⟨hk, rfl, _⟩ | ⟨hk, rfl, _⟩ | ⟨hk, rfl, _⟩ <;> simp [hv, hT, hk]
theorem hT_method (k : Int) (hk : k = 1 ∨ k = 2 ∨ k = 3) (h : Nat) (w : World) : (method 274 (hT k) (.pointer (some ⟨h, 0, none⟩)) "astragal/habit.cast").run Try.prog w = .ok (castF k, .pointer (some ⟨h, 0, none⟩)) w := by
  rcases hk with rfl | rfl | rfl <;> kernel_rfl
theorem castF_enter (k : Int) (hk : k = 1 ∨ k = 2 ∨ k = 3) (args : Array Value) (w : World) : (callFunc (castF k) args).run Try.prog w = .ok (.enter (castF k) args) w := by
  rcases hk with rfl | rfl | rfl <;> kernel_rfl
theorem HandV.kind {x : Md} {r0 : LL} {st : HSt} {h lb : Nat} {v : Value} {W : World} (hh : HandV x r0 st h lb v W) : x.kind = 1 ∨ x.kind = 2 ∨ x.kind = 3 := by
  rcases hh with ⟨hk, _⟩ | ⟨hk, _⟩ | ⟨hk, _⟩
  · exact .inl hk
  · exact .inr (.inl hk)
  · exact .inr (.inr hk)
theorem HandV.lt {x : Md} {r0 : LL} {st : HSt} {h lb : Nat} {v : Value} {W : World} (hh : HandV x r0 st h lb v W) : h < W.heap.size := by
  rcases hh with ⟨hk, _, hb⟩ | ⟨hk, _, hb⟩ | ⟨hk, _, _, _, _, hb, _⟩ <;> exact hb.lt
theorem wtI_cast_lt {m : HMd} (ok : ModOk m) {l : List Int} (hl : regB m.outs l) {i : Nat} (hi : i < l.length) : 0 ≤ l.getD i 0 ∧ (l.getD i 0).toNat < m.row0.length := by
  have h1 := hl.at_ hi
  obtain ⟨r, t, h2⟩ := ok.rows0
  have : m.row0.length = m.outs := by unfold HMd.row0 HMd.outs; rw [h2]; rfl
  exact ⟨h1.1, by rw [this]; omega⟩
set_option maxRecDepth 100000 in
set_option maxHeartbeats 4000000 in
theorem castV_any (x : Md) (r0 : LL) (t : List LL) (hx0 : x.rows = r0 :: t) (ok : ModOk x.m) (l : List Int) (hl : regB x.m.outs l) (hlen : l.length ≤ 1000000) (i : Nat) (hi : i < l.length) (st : HSt) (hok : HOk x.m l i st) (h lb z : Nat) (v : Value) (w : World)
    (hzh : z ≤ h) (hzl : z ≤ lb) (hzw : z ≤ w.heap.size) (hrd : x.reads w z) (hh : HandV x r0 st h lb v w) :
    Calls Try.prog (castF x.kind) #[.pointer (some ⟨h, 0, none⟩), .int .i64 (l.getD i 0)] w fun e w' => e = .returned (.agg #[.int .i64 (wtI x.m l i).1, .int .i64 (wtI x.m l i).2]) ∧ ∃ lb', HandV x r0 (st.cast x.m (l.getD i 0)).1 h lb' v w' ∧ (lb' = lb ∨ w.heap.size ≤ lb') ∧ (lb < w.heap.size → lb' < w'.heap.size) ∧ TurnB (fun r => r = h ∨ r = lb) w.heap.size w w' := by
  have hxr := wtI_cast_lt ok hl hi
  have hat := hl.at_ hi
  have ha1 : x.m.kind = 3 → 1 ≤ x.m.after := fun hk => by rcases ok.kind with ⟨k, _⟩ | ⟨k, _⟩ | ⟨_, _, k, _⟩ <;> omega
  have hc := hok.cast hi ha1 hxr.1 hxr.2
  have hr0 : x.m.row0 = r0.l := by unfold HMd.row0 Md.m; rw [hx0]; rfl
  have hro : r0.l.length = x.m.outs := by unfold HMd.outs Md.m; rw [hx0]; rfl
  have hrow := ok.row r0.l (by simp [Md.m, hx0])
  have hsl : Sl intCell 1 w z r0.a r0.l := hrd.ls.row r0 (by rw [hx0]; simp)
  have ht0 : 0 ≤ totI r0.l ∧ totI r0.l ≤ 32000 := by
    have h1 := totI_le (b := 1000) (fun y hy => (hrow.2.1 y hy).2)
    have h2 := ok.n32
    exact ⟨by omega, by omega⟩
  have n32 := ok.n32
  obtain ⟨X, hX⟩ : ∃ X : Nat, l.getD i 0 = (X : Int) := ⟨(l.getD i 0).toNat, by omega⟩
  rw [hX] at hc hxr hat ⊢
  rw [← hc.1]
  simp only [Int.toNat_natCast, hr0] at hxr
  rcases hh with ⟨hk, rfl, hb⟩ | ⟨hk, rfl, hb⟩ | ⟨hk, rfl, LA, LN, LC, hb, hlft⟩
  · have hkm : x.m.kind = 1 := hk
    rw [show castF x.kind = 127 by simp [castF, hk]]
    refine (castSt_any r0.a r0.c r0.l (totI r0.l) h X w hxr.2 hb (hsl.more hzw)).mono ?_
    rintro _ w' ⟨rfl, hw⟩
    have e : st.cast x.m (X : Int) = (st, (r0.l.getD X 0, totI r0.l)) := by unfold HSt.cast; rw [if_neg (by omega), if_neg (by omega), hr0]; simp
    rw [e]
    exact ⟨rfl, lb, .inl ⟨hk, rfl, hb.below hw hb.lt⟩, .inl rfl, fun h => Nat.lt_of_lt_of_le h hw.size, Below.turn hw⟩
  · have hkm : x.m.kind = 2 := hk
    rw [show castF x.kind = 124 by simp [castF, hk]]
    have hnx := hok.next hkm
    have hmem : x.m.rows.getD st.next [] ∈ x.m.rows := by
      by_cases h0 : i = 0
      · rw [if_pos h0] at hnx; rw [hnx]
        have := ok.row0_mem; unfold HMd.row0 at this; exact this
      · rw [if_neg h0] at hnx; rw [hnx]
        have hp := hl.at_ (i := i - 1) (by omega)
        exact ok.next_mem hkm hp.1 hp.2
    have hnl : st.next < x.rows.length := by
      have hrl : x.rows.length = x.m.outs + 1 := by
        have : x.m.rows.length = x.rows.length := by simp [Md.m]
        rcases ok.kind with ⟨k, _⟩ | ⟨_, k, _⟩ | ⟨k, _⟩ <;> omega
      by_cases h0 : i = 0
      · rw [if_pos h0] at hnx; omega
      · rw [if_neg h0] at hnx
        have hp := hl.at_ (i := i - 1) (by omega)
        omega
    have hge : x.m.rows.getD st.next [] = x.rows[st.next].l := by simp [Md.m, hnl]
    rw [hge] at hmem
    have hr2 := ok.row _ hmem
    have htt : totI x.rows[st.next].l ≤ 32000 := by have h1 := totI_le (b := 1000) (fun y hy => (hr2.2.1 y hy).2); omega
    refine (castHab_any z x.a x.c x.rows st.next h X w hzh hnl (by omega) (by omega) hb hrd.ls (by omega) (fun y hy => (hr2.2.1 y hy).1) (by omega)).mono ?_
    rintro _ w' ⟨rfl, hb', hT⟩
    have e : st.cast x.m (X : Int) = (⟨((X : Int) + 1).toNat, st.left, st.aside⟩, (x.rows[st.next].l.getD X 0, totI x.rows[st.next].l)) := by unfold HSt.cast; rw [if_pos hkm, hge]; simp
    rw [e]
    refine ⟨rfl, lb, .inr (.inl ⟨hk, rfl, ?_⟩), .inl rfl, fun h => Nat.lt_of_lt_of_le h hT.size, ⟨hT.os, hT.tape, hT.output, hT.size, fun k h1 h2 => hT.block k h1 fun h3 => h2 (.inl h3)⟩⟩
    show Blk w' h #[.slice x.a x.rows.length x.c, .int .i64 ((((X : Int) + 1).toNat : Nat) : Int)] 126
    rw [show ((((X : Int) + 1).toNat : Nat) : Int) = (X : Int) + 1 by omega]
    exact hb'
  · have hkm : x.m.kind = 3 := hk
    have ha := ha1 hkm
    have hkk : x.after ≤ totI r0.l := by
      rw [← hr0]
      rcases ok.kind with ⟨k, _⟩ | ⟨k, _⟩ | ⟨_, _, _, k⟩
      · omega
      · omega
      · exact k
    rw [show castF x.kind = 125 by simp [castF, hk]]
    obtain ⟨left, hleft⟩ : ∃ q, q = (if st.aside = 0 then r0.l else st.left) := ⟨_, rfl⟩
    have has := hok.aside hkm
    have hal : (st.aside : Int) < x.after := by
      have h1 : x.m.after = x.after := rfl
      rw [h1] at has
      have h2 : i % x.after.toNat < x.after.toNat := Nat.mod_lt _ (by have : 1 ≤ x.after := ha; omega)
      omega
    have hll : st.aside ≠ 0 → left.length = r0.l.length := fun h0 => by
      rw [hleft, if_neg h0, hok.len hkm h0, hr0]
    have hbd : -1000000000 ≤ left.getD X 0 ∧ left.getD X 0 ≤ 1000000000 := by
      have hX1 : r0.l.getD X 0 ∈ r0.l := by
        have : r0.l.getD X 0 = r0.l[X]'(hxr.2) := by simp [hxr.2]
        rw [this]; exact List.getElem_mem _
      have hX2 := hrow.2.1 _ hX1
      by_cases h0 : st.aside = 0
      · rw [hleft, if_pos h0]; omega
      · rw [hleft, if_neg h0, hok.left hkm h0 X (by rw [hr0]; exact hxr.2), hr0]
        have h3 := cntI_bd (X : Int) ((l.take i).drop (i - i % x.m.after.toNat))
        have h4 : ((l.take i).drop (i - i % x.m.after.toNat)).length ≤ l.length := by simp; omega
        omega
    refine (castStk_any z r0.a r0.c r0.l (totI r0.l) LA LN LC st.aside left x.after h lb X w hzh hzl hxr.2 (by omega) hb hsl ⟨ht0.1, by omega⟩ ⟨ha, by omega⟩ hal (fun h0 => by rw [hleft, if_neg h0]; exact hlft h0) hll (fun h0 => by rw [hleft, if_pos h0]) hbd).mono ?_
    rintro _ w' ⟨rfl, lb', LC', hb', hl', hne, hor, hT⟩
    have e : st.cast x.m (X : Int) = (⟨st.next, left.set X (left.getD X 0 - 1), (st.aside + 1) % x.after.toNat⟩, (max (left.getD X 0) 0, totI r0.l - (st.aside : Int))) := by
      unfold HSt.cast; rw [if_neg (by omega), if_pos hkm, hr0, ← hleft]; simp [Md.m]
    rw [e]
    refine ⟨rfl, lb', .inr (.inr ⟨hk, rfl, _, left.length, LC', ?_, fun _ => ⟨rfl, by simp, hl', hne⟩⟩), hor, fun _ => hl'.lt, hT⟩
    simp only
    exact hb'
/-- where the model and the register lie -/
structure ShAt (x : Md) (l : List Int) (lA : Option Addr) (lc b1 b2 z : Nat) (W : World) : Prop where
  k1 : Blk W b1 #[.int .i64 x.kind, .slice x.a x.rows.length x.c, .int .i64 x.after] 25
  k2 : Blk W b2 #[.slice lA l.length lc] 30
  rd : x.reads W z
  sl : Sl intCell 1 W z lA l
  zb : z ≤ b1
theorem ShAt.keep {x : Md} {l : List Int} {lA : Option Addr} {lc b1 b2 z : Nat} {W W' : World} (h : ShAt x l lA lc b1 b2 z W) (hz : Below z W W') (h1 : W'.heap[b1]? = W.heap[b1]?) (h2 : W'.heap[b2]? = W.heap[b2]?) : ShAt x l lA lc b1 b2 z W' :=
  ⟨h1.trans h.k1, h2.trans h.k2, h.rd.below hz, h.sl.below hz, h.zb⟩
/-- what the range keeps -/
def ShD (x : Md) (r0 : LL) (l : List Int) (lA : Option Addr) (lc b1 b2 z : Nat) (s : Nat × Nat × HSt) (W : World) : Prop := HandV x r0 s.2.2 s.1 s.2.1 (hv x.kind s.1) W ∧ ShAt x l lA lc b1 b2 z W ∧ s.2.1 < W.heap.size
/-- what round k is handed -/
def EncSh (x : Md) (l : List Int) (k : Nat) (_ : World) (xs : Array Value) : Prop := xs = #[.int .i64 (k : Int), .agg #[.int .i64 (wtI x.m l k).1, .int .i64 (wtI x.m l k).2]]
theorem ent_shI : Ent 80 := ent_of (fn := Try.f80) (by kernel_rfl) (by kernel_rfl) (by kernel_rfl)
set_option maxRecDepth 100000 in
set_option maxHeartbeats 4000000 in
theorem shI_iter (x : Md) (r0 : LL) (t : List LL) (hx0 : x.rows = r0 :: t) (ok : ModOk x.m) (l : List Int) (hl : regB x.m.outs l) (hlen : l.length ≤ 1000000) (lA : Option Addr) (lc b1 b2 z : Nat) :
    IterS (S := Nat × Nat × HSt) (fun s r => r = s.1 ∨ r = s.2.1) 80 #[.pointer (some ⟨b1, 0, none⟩), .pointer (some ⟨b2, 0, none⟩)] (fun W => z ≤ W.heap.size ∧ ShAt x l lA lc b1 b2 z W) (ShD x r0 l lA lc b1 b2 z) (EncSh x l) l.length := by
  intro Y J J0 Jx W hJ0s hJs hJz hJxs hJ0D hst hY h0
  obtain ⟨hzW, hD⟩ := hJ0D W h0
  have HJs := Lib.hid hJs; have HJz := Lib.hid hJz; have HY := Lib.hid hY; have HL := Lib.hid hl; have HOKM := Lib.hid ok
  have HST := Lib.hid hst; have HJ0 := Lib.hid (fun W' (hb : Below W.heap.size W W') => hJ0s W W' h0 hb)
  have HN := Lib.hid (startH_any x r0 t W (hD.rd.more hzW) hx0 ok)
  have HDA := Lib.hid hD
  have k1 := hD.k1; have k2 := hD.k2
  have HX0 := Lib.hid hx0
  have c0 := k1.cell 0; have c1 := k1.cell 1; have c2 := k1.cell 2
  have f0 := k2.cell 0
  simp at c0 c1 c2 f0
  have hk1l := k1.lt; have hk2l := k2.lt
  clear k1 k2 hD hJ0D hJ0s hJs hJz hY hst h0 hJxs hl ok hx0
  rw [← callsIn_wide (n := 2)]
  refine callsIn_of_wp Try.func80 rfl trivial ?_ rfl
  simp only [Try.ntmps80, List.size_toArray, List.length_cons, List.length_nil, Nat.reduceAdd, Nat.reduceSub, Array.replicate_succ, Array.replicate_zero, List.push_toArray, List.append_toArray, List.nil_append, List.cons_append]
  gi_wp2
  refine ⟨trivial, (callsIn_wide.2 HN.out).mono ?_⟩
  rintro e w1 ⟨v, h, rfl, hh, hge, hb1⟩
  have hval := hh.val
  have f1 := ((bcell hb1).1 b2 0 hk2l).trans f0
  have HD1 : Hid (ShD x r0 l lA lc b1 b2 z (h, h, st0) w1) := Lib.hid ⟨by rw [← hval]; exact hh, HDA.out.keep (hb1.mono hzW) (hb1.block b1 hk1l) (hb1.block b2 hk2l), hh.lt⟩
  have HJ1 : Hid (J (h, h, st0) 0 w1) := Lib.hid (HST.out (h, h, st0) w1 (fun r hr => by rcases hr with rfl | rfl <;> exact hge) HD1.out (HJ0.out w1 hb1))
  have hm := fun w => hT_method x.kind hh.kind h w
  have hcf := fun args w => castF_enter x.kind hh.kind args w
  have HK := Lib.hid hh.kind
  rw [hv] at hval
  obtain ⟨TT, hTT⟩ : ∃ q, q = hT x.kind := ⟨_, rfl⟩
  obtain ⟨CF, hCF⟩ : ∃ q, q = castF x.kind := ⟨_, rfl⟩
  rw [← hTT] at hval hm
  rw [← hCF] at hm hcf
  subst hval
  have HTT := Lib.hid hTT; have HCF := Lib.hid hCF
  have HO1 := Lib.hid (HOk.start x.m l)
  have hzh : z ≤ h := by omega
  have hw1z := hb1.size
  clear hh hb1 hTT hCF HN HST HJ0 HDA c0 c1 c2 f0
  gi_wp2
  gi_loopw [11] (fun i wr => ∃ n : Nat, n ≤ l.length ∧ i = .int .i64 n ∧ W.heap.size ≤ wr.heap.size ∧ Hid (∃ lb st, W.heap.size ≤ lb ∧ HOk x.m l n st ∧ J (h, lb, st) n wr ∧ ShD x r0 l lA lc b1 b2 z (h, lb, st) wr)) (fun i _ => l.length - (intOf i).toNat)
  case atStart => exact ⟨0, by omega, rfl, hw1z, ⟨h, st0, hge, HO1.out, HJ1.out, HD1.out⟩⟩
  case round =>
    obtain ⟨n, hn, rfl, hwz, hj⟩ := hrel
    clear HO1 HJ1 HD1 f1 hw1z
    by_cases hlt : n < l.length
    · obtain ⟨lb, st, hlb, hok, hJ, hD⟩ := hj.out
      obtain ⟨b, o, rfl, hb, hc⟩ := hD.2.1.sl.int_at hlt
      have hbz : b < wr.heap.size := by omega
      have e1 : l.getD n 0 = l[n] := by simp [hlt]
      have HCV := Lib.hid (castV_any x r0 t HX0.out HOKM.out l HL.out hlen n hlt st hok h lb z (hv x.kind h) wr hzh (by omega) (by omega) hD.2.1.rd hD.1)
      rw [e1, ← HCF.out] at HCV
      obtain ⟨y, hy⟩ : ∃ y, y = l[n] := ⟨_, rfl⟩
      rw [← hy] at HCV hc e1
      have HJ := Lib.hid hJ; have HD := Lib.hid hD; have HE := Lib.hid e1; have HOK := Lib.hid hok
      clear hj hJ hD hok e1 hy
      have hoc := (HOK.out.cast hlt (fun hk => by rcases HOKM.out.kind with ⟨k, _⟩ | ⟨k, _⟩ | ⟨_, _, k, _⟩ <;> omega) (wtI_cast_lt HOKM.out HL.out hlt).1 (wtI_cast_lt HOKM.out HL.out hlt).2).2
      rw [HE.out] at hoc
      have HOC := Lib.hid hoc
      clear hoc
      gi_wp2
      refine ⟨trivial, (callsIn_wide.2 HCV.out).mono ?_⟩
      rintro e w3 ⟨rfl, lb', hh3, hor, hlt3, hT3⟩
      have hlb' : W.heap.size ≤ lb' := by omega
      have hJ3 : J (h, lb', (st.cast x.m y).1) n w3 := turn_J (blk := fun s r => r = s.1 ∨ r = s.2.1) (B := W.heap.size) HJs.out HJz.out (s := (h, lb, st)) (s' := (h, lb', (st.cast x.m y).1)) (p := h) (q := lb) (.inl rfl) (.inr rfl) hge hlb HJ.out hT3
        (fun r hr => by
          rcases hr with hr | hr
          · exact .inl (.inl hr)
          · rcases hor with e | e
            · exact .inl (.inr (hr.trans e))
            · exact .inr (by rw [hr]; exact e))
      have hD3 : ShD x r0 l (some ⟨b, o, none⟩) lc b1 b2 z (h, lb', (st.cast x.m y).1) w3 := ⟨hh3, HD.out.2.1.keep ⟨hT3.os, hT3.tape, hT3.output, hT3.size, fun k hk => hT3.block k (by omega) (by omega)⟩ (hT3.block b1 (by omega) (by omega)) (hT3.block b2 (by omega) (by omega)), hlt3 HD.out.2.2⟩
      have hwz3 : W.heap.size ≤ w3.heap.size := Nat.le_trans hwz hT3.size
      obtain ⟨fn, tmps, assign, body, hy, hR⟩ := HY.out (h, lb', (st.cast x.m y).1) n w3 #[.int .i64 (n : Int), .agg #[.int .i64 (wtI x.m l n).1, .int .i64 (wtI x.m l n).2]] (fun r hr => by rcases hr with rfl | rfl <;> assumption) hlt hJ3 hD3 rfl
      have HRR := Lib.hid hR
      clear hR hJ3 hD3 hh3 hor hT3 hlt3 hc HCV HJ HD HOK HE
      gi_wp2
      refine HRR.out.mono ?_
      rintro e W5 (⟨rfl, hJ5, hD5⟩ | ⟨rfl, hJx5⟩)
      · have hz5 : W.heap.size ≤ W5.heap.size := by have := hD5.1.lt; omega
        have HJ5 := Lib.hid hJ5; have HD5 := Lib.hid hD5
        clear hJ5 hD5 hy HRR
        gi_wp2
        go_roundw
        case rel => exact ⟨n + 1, by omega, by go_num, hz5, lb', _, hlb', HOC.out, HJ5.out, HD5.out⟩
        case measure => simp [intOf]; omega
      · have HJ5 := Lib.hid hJx5
        clear hJx5 hy HRR
        gi_wp2
        refine bodyPost_ret (results_none rfl _ _ _) rfl ?_
        exact ⟨⟨_, rfl⟩, .inr HJ5.out⟩
    · obtain rfl : n = l.length := by omega
      gi_wp2
      go_end0
      obtain ⟨lb, st, hlb, hok, hJ, hD⟩ := hj.out
      exact ⟨⟨_, rfl⟩, .inl ⟨(h, lb, st), fun r hr => (by rcases hr with rfl | rfl <;> assumption), hJ⟩⟩
end Go.Proofs.Ytiikkcifdhcejaa

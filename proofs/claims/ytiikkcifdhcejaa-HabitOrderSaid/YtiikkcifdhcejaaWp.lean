/- habit: Change, words. -/
import Derived.Test.YtiikkcifdhcejaaWo
namespace Go.Proofs.Ytiikkcifdhcejaa
open Go.RowKit

theorem Blk.ne_of {W : World} {b b' : Nat} {cs cs' : Array Value} {t t' : TypeId} (h1 : Blk W b cs t) (h2 : Blk W b' cs' t') (ht : t ≠ t') : b ≠ b' := fun e => by
  subst e
  unfold Blk at h1 h2
  rw [h1] at h2
  cases h2
  exact ht rfl
theorem HandV.ne {x : Md} {r0 : LL} {st : HSt} {h lb : Nat} {v : Value} {W : World} (hh : HandV x r0 st h lb v W) {b : Nat} {cs : Array Value} {t : TypeId} (g : Blk W b cs t) (h1 : t ≠ 123) (h2 : t ≠ 126) (h3 : t ≠ 129) : b ≠ h := by
  rcases hh with ⟨_, _, hb⟩ | ⟨_, _, hb⟩ | ⟨_, _, _, _, _, hb, _⟩
  · exact g.ne_of hb h1
  · exact g.ne_of hb h2
  · exact g.ne_of hb h3
theorem hand_word {x : Md} {r0 : LL} {st : HSt} {h lb : Nat} {v : Value} {W : World} (hh : HandV x r0 st h lb v W) (o : Nat) (n : Int) : W.cell? ⟨h, o, none⟩ ≠ some (.int .u64 n) := fun e => by
  rcases hh with ⟨_, _, hb⟩ | ⟨_, _, hb⟩ | ⟨_, _, LA, LN, LC, hb, _⟩
  · rw [hb.cell o] at e
    match o with
    | 0 => cases e
    | 1 => cases e
    | n + 2 => simp at e
  · rw [hb.cell o] at e
    match o with
    | 0 => cases e
    | 1 => cases e
    | n + 2 => simp at e
  · rw [hb.cell o] at e
    match o with
    | 0 => cases e
    | 1 => cases e
    | 2 => cases e
    | 3 => cases e
    | 4 => cases e
    | n + 5 => simp at e
/-- no list of a score lies in a hand -/
theorem ScV.hand {p q len lo : Nat} {val v : Value} {W : World} (hs : ScV p q len lo v W) {x : Md} {r0 : LL} {st : HSt} {h lb : Nat} (hh : HandV x r0 st h lb val W) : ScAv (fun r => r = h) v := by
  obtain ⟨A, c, L, A2, c2, L2, h1, h2, h3, h4, h5, h6, h7, h8⟩ := hs
  refine ⟨A, _, c, A2, _, c2, h1, fun hn ad e hq => ?_, fun hn ad e hq => ?_⟩
  · obtain ⟨b, o, e2, hb, hc⟩ := h6.word_at hn
    rw [e] at e2; cases e2
    simp only at hq
    subst hq
    exact hand_word hh _ _ hc
  · obtain ⟨b, o, e2, hb, hc⟩ := h7.word_at hn
    rw [e] at e2; cases e2
    simp only at hq
    subst hq
    exact hand_word hh _ _ hc
/-- a score stays where blocks turn that hold none of its lists -/
theorem ScV.turn {p q len lo : Nat} {x : Value} {W W' : World} {P : Nat → Prop} (h : ScV p q len lo x W) (hb : ScAv P x) (hT : TurnB P W.heap.size W W') : ScV p q len lo x W' := by
  obtain ⟨A, c, L, A2, c2, L2, h1, h2, h3, h4, h5, h6, h7, h8⟩ := h
  obtain ⟨A', n', c', A2', n2', c2', e, k1, k2⟩ := hb
  rw [h1] at e
  simp at e
  obtain ⟨⟨rfl, rfl, rfl⟩, ⟨rfl, rfl, rfl⟩⟩ := e
  have go : ∀ {B : Option Addr} {M : List Nat}, Sl wordC 1 W W.heap.size B M → (0 < M.length → ∀ ad, B = some ad → ¬ P ad.block) → Sl wordC 1 W' W'.heap.size B M := fun {B M} hs hk => (show Sl wordC 1 W' W.heap.size B M from ⟨hs.1, fun hn => by
    obtain ⟨b, o, e, hb, hc⟩ := hs.2 hn
    refine ⟨b, o, e, hb, fun j u hu => ?_⟩
    have h9 := hT.block b hb (hk hn _ e)
    have h8 := hc j u hu
    unfold World.cell? at h8 ⊢
    rw [h9]
    exact h8⟩).more hT.size
  exact ⟨A, c, L, A2, c2, L2, h1, h2, h3, h4, h5, go h6 k1, go h7 k2, h8⟩
theorem TurnB.grown {P : Nat → Prop} {B : Nat} {w w' w'' : World} (h : TurnB P B w w') {row : Option Nat} (hg : w'.grownBy w'' row) (hB : B ≤ w'.heap.size) (hr : ∀ r, row = some r → B ≤ r) : TurnB P B w w'' :=
  ⟨hg.os.trans h.os, hg.tape.trans h.tape, hg.output.trans h.output, Nat.le_trans h.size hg.size, fun k hk hp => (hg.block k (by omega) (fun e => by have := hr k e.symm; omega)).trans (h.block k hk hp)⟩
/-- the products of a candidate -/
def chA (a b : HMd) (l : List Int) (t : Nat) : Nat := ovN a l t * ovN b (l.drop t) (l.length - t)
def chB (a b : HMd) (l : List Int) (t : Nat) : Nat := unN a l t * unN b (l.drop t) (l.length - t)
/-- the best of the first candidates: where it is, its products -/
def chgGo (a b : HMd) (l : List Int) : Nat → Int × Nat × Nat
  | 0 => (-1, 0, 1)
  | t + 1 => if 0 < cmpN (chA a b l t * (chgGo a b l t).2.2) ((chgGo a b l t).2.1 * chB a b l t) then ((t : Int), chA a b l t, chB a b l t) else chgGo a b l t
def chgR (a b : HMd) (l : List Int) : Int × Int := if regsE [a, b] l = 0 then (if (chgGo a b l (l.length + 1)).1 < 0 then (0, 7) else ((chgGo a b l (l.length + 1)).1, 0)) else (0, regsE [a, b] l)
/-- a block without words holds no list of a score -/
theorem ScV.noW {p q len lo : Nat} {v : Value} {W : World} (hs : ScV p q len lo v W) {b : Nat} (hb : ∀ (o : Nat) (n : Int), W.cell? ⟨b, o, none⟩ ≠ some (.int .u64 n)) : ScAv (fun r => r = b) v := by
  obtain ⟨A, c, L, A2, c2, L2, h1, h2, h3, h4, h5, h6, h7, h8⟩ := hs
  refine ⟨A, _, c, A2, _, c2, h1, fun hn ad e hq => ?_, fun hn ad e hq => ?_⟩
  · obtain ⟨b', o, e2, hb', hc⟩ := h6.word_at hn
    rw [e] at e2; cases e2
    simp only at hq
    subst hq
    exact hb _ _ hc
  · obtain ⟨b', o, e2, hb', hc⟩ := h7.word_at hn
    rw [e] at e2; cases e2
    simp only at hq
    subst hq
    exact hb _ _ hc
theorem two_noW {W : World} {b : Nat} {A A2 : Option Addr} {n c n2 c2 : Nat} {t : TypeId} (g : Blk W b #[.slice A n c, .slice A2 n2 c2] t) (o : Nat) (m : Int) : W.cell? ⟨b, o, none⟩ ≠ some (.int .u64 m) := fun e => by
  rw [g.cell o] at e
  match o with
  | 0 => cases e
  | 1 => cases e
  | n + 2 => simp at e
theorem setTwo_turn {W : World} {b : Nat} (u v : Value) : TurnB (fun r => r = b) W.heap.size W ((W.setCell ⟨b, 0, none⟩ u).setCell ⟨b, 1, none⟩ v) :=
  ((Below.turn (P := fun r => r = b) (Below.refl W.heap.size W)).setCell (p := ⟨b, 0, none⟩) rfl u).setCell (p := ⟨b, 1, none⟩) rfl v
/-- a score in a block of its own -/
structure ScBox (W : World) (b p q len : Nat) (Q : Nat → Prop) : Prop where
  at_ : ∃ A n c A2 n2 c2, Blk W b #[.slice A n c, .slice A2 n2 c2] 79 ∧ ScV p q len 0 (.agg #[.slice A n c, .slice A2 n2 c2]) W ∧ ScAv Q (.agg #[.slice A n c, .slice A2 n2 c2])
theorem ScBox.lt {W : World} {b p q len : Nat} {Q : Nat → Prop} (h : ScBox W b p q len Q) : b < W.heap.size := by
  obtain ⟨_, _, _, _, _, _, g, _⟩ := h.at_
  exact g.lt
/-- where other blocks turn that hold none of its lists -/
theorem ScBox.turn {W W' : World} {b p q len : Nat} {Q P : Nat → Prop} (h : ScBox W b p q len Q) (hT : TurnB P W.heap.size W W') (hP : ∀ r, P r → Q r ∨ ∀ (o : Nat) (n : Int), W.cell? ⟨r, o, none⟩ ≠ some (.int .u64 n)) (hb : ¬ P b) : ScBox W' b p q len Q := by
  obtain ⟨A, n, c, A2, n2, c2, g, hs, ha⟩ := h.at_
  refine ⟨A, n, c, A2, n2, c2, (hT.block b g.lt hb).trans g, hs.turn (P := P) ?_ hT, ha⟩
  obtain ⟨A', c', L, A2', c2', L2, h1, h2, h3, h4, h5, h6, h7, h8⟩ := hs
  obtain ⟨A9, n9, c9, A8, n8, c8, e, k1, k2⟩ := ha
  simp at h1 e
  obtain ⟨⟨rfl, rfl, rfl⟩, ⟨rfl, rfl, rfl⟩⟩ := h1
  obtain ⟨⟨rfl, rfl, rfl⟩, ⟨rfl, rfl, rfl⟩⟩ := e
  refine ⟨_, _, _, _, _, _, rfl, fun hn ad e hq => ?_, fun hn ad e hq => ?_⟩
  · rcases hP _ hq with h9 | h9
    · exact k1 hn ad e h9
    · obtain ⟨b', o, e2, hb', hc⟩ := h6.word_at hn
      rw [e] at e2; cases e2
      exact h9 _ _ hc
  · rcases hP _ hq with h9 | h9
    · exact k2 hn ad e h9
    · obtain ⟨b', o, e2, hb', hc⟩ := h7.word_at hn
      rw [e] at e2; cases e2
      exact h9 _ _ hc
theorem ScBox.below {W W' : World} {b p q len : Nat} {Q : Nat → Prop} (h : ScBox W b p q len Q) (hb : Below W.heap.size W W') : ScBox W' b p q len Q :=
  h.turn (P := fun _ => False) ⟨hb.os, hb.tape, hb.output, hb.size, fun k hk _ => hb.block k hk⟩ (fun _ h => h.elim) id
/-- with other blocks to be avoided: those that come later, and those that were -/
theorem ScBox.avoid {W : World} {b p q len : Nat} {Q Q' : Nat → Prop} (h : ScBox W b p q len Q) (hq : ∀ r, Q' r → Q r ∨ W.heap.size ≤ r) : ScBox W b p q len Q' := by
  obtain ⟨A, n, c, A2, n2, c2, g, hs, ha⟩ := h.at_
  exact ⟨A, n, c, A2, n2, c2, g, hs, hs.avoid ha hq⟩
theorem ScBox.len_ {W : World} {b p q len len' : Nat} {Q : Nat → Prop} (h : ScBox W b p q len Q) (hl : len ≤ len') : ScBox W b p q len' Q := by
  obtain ⟨A, n, c, A2, n2, c2, g, ⟨A', c', L, A2', c2', L2, h1, h2, h3, h4, h5, h6⟩, ha⟩ := h.at_
  exact ⟨A, n, c, A2, n2, c2, g, ⟨A', c', L, A2', c2', L2, h1, h2, h3, by omega, by omega, h6⟩, ha⟩
/-- a score is put into the block -/
theorem ScBox.put {W : World} {b p q len p' q' len' lo : Nat} {Q : Nat → Prop} (h : ScBox W b p q len Q) {A A2 : Option Addr} {n c n2 c2 : Nat} (hs : ScV p' q' len' lo (.agg #[.slice A n c, .slice A2 n2 c2]) W) (ha : ScAv Q (.agg #[.slice A n c, .slice A2 n2 c2])) :
    ScBox ((W.setCell ⟨b, 0, none⟩ (.slice A n c)).setCell ⟨b, 1, none⟩ (.slice A2 n2 c2)) b p' q' len' Q := by
  obtain ⟨A', n', c', A2', n2', c2', g, -, -⟩ := h.at_
  have m := (g.set 0 (.slice A n c)).set 1 (.slice A2 n2 c2)
  simp at m
  exact ⟨_, _, _, _, _, _, m, (hs.mono (Nat.zero_le _)).turn (hs.noW (two_noW g)) (setTwo_turn _ _), ha⟩
theorem ScV.mono_len {p q len len' lo : Nat} {x : Value} {W : World} (h : ScV p q len lo x W) (hl : len ≤ len') : ScV p q len' lo x W := by
  obtain ⟨A', c', L, A2', c2', L2, h1, h2, h3, h4, h5, h6⟩ := h
  exact ⟨A', c', L, A2', c2', L2, h1, h2, h3, by omega, by omega, h6⟩
/-- what Change keeps between its candidates -/
structure ChgAt (x y : Md) (ra : LL) (l : List Int) (b4 b9 b11 h z : Nat) (w : World) (t kx bo bu : Nat) (st : HSt) (lb : Nat) (W : World) : Prop where
  bw : Below z w W
  g4 : Blk W b4 #[.int .i64 y.kind, .slice y.a y.rows.length y.c, .int .i64 y.after] 25
  s9 : ScBox W b9 (ovN x.m l t) (unN x.m l t) (t + 1) (fun r => r = h ∨ r = lb)
  s11 : ScBox W b11 bo bu 1000 (fun r => r = h ∨ r = lb)
  ox : HOk x.m l kx st
  hx : HandV x ra st h lb (hv x.kind h) W
  l1 : lb < W.heap.size
  a1 : lb ≠ b4 ∧ lb ≠ b9 ∧ lb ≠ b11 ∧ z ≤ lb
  a2 : h ≠ b4 ∧ h ≠ b9 ∧ h ≠ b11 ∧ z ≤ h
theorem ChgAt.below {x y : Md} {ra : LL} {l : List Int} {b4 b9 b11 h z : Nat} {w : World} {t kx bo bu : Nat} {st : HSt} {lb : Nat} {W W' : World} (q : ChgAt x y ra l b4 b9 b11 h z w t kx bo bu st lb W) (hb : Below W.heap.size W W') : ChgAt x y ra l b4 b9 b11 h z w t kx bo bu st lb W' := by
  have h5 := q.hx.lt; have a2 := q.a2
  exact ⟨q.bw.trans (hb.mono (by omega)), q.g4.below hb q.g4.lt, q.s9.below hb, q.s11.below hb, q.ox, q.hx.same fun k hk _ => hb.block k hk, Nat.lt_of_lt_of_le q.l1 hb.size, q.a1, q.a2⟩
/-- where a block with no words turns that is none of these -/
theorem ChgAt.turn {x y : Md} {ra : LL} {l : List Int} {b4 b9 b11 h z : Nat} {w : World} {t kx bo bu : Nat} {st : HSt} {lb : Nat} {W W' : World} (q : ChgAt x y ra l b4 b9 b11 h z w t kx bo bu st lb W) {b14 : Nat} (hT : TurnB (fun r => r = b14) W.heap.size W W')
    (hn : ∀ (o : Nat) (n : Int), W.cell? ⟨b14, o, none⟩ ≠ some (.int .u64 n)) (hz : z ≤ b14) (h4 : b4 ≠ b14) (h9 : b9 ≠ b14) (h11 : b11 ≠ b14) (hh : h ≠ b14) (hl : lb ≠ b14) : ChgAt x y ra l b4 b9 b11 h z w t kx bo bu st lb W' := by
  have h5 := q.hx.lt; have a2 := q.a2
  refine ⟨q.bw.trans ⟨hT.os, hT.tape, hT.output, hT.size, fun k hk => hT.block k (by omega) (by omega)⟩, (hT.block b4 q.g4.lt h4).trans q.g4, q.s9.turn hT (fun r hr => .inr (by subst hr; exact hn)) h9, q.s11.turn hT (fun r hr => .inr (by subst hr; exact hn)) h11, q.ox, q.hx.same fun k hk h9 => hT.block k hk (by omega), Nat.lt_of_lt_of_le q.l1 hT.size, q.a1, q.a2⟩
theorem ovN_zero {m : HMd} {l : List Int} {k : Nat} (h : ovN m l k = 0) : ∀ j, ovN m l (k + j) = 0
  | 0 => h
  | j + 1 => by rw [← Nat.add_assoc, ovN, ovN_zero h j, Nat.zero_mul]
def Marks (B : Nat) (W : World) : List Deferred → Prop
  | [] => True
  | d :: ds => (∃ D, d = { target := .collected D, args := #[] } ∧ B ≤ D ∧ W.heap[D]? = some (.deferred (some [])) ∧ ∀ D', { target := .collected D', args := #[] } ∈ ds → D' ≠ D) ∧ Marks B W ds
theorem Marks.at_ {B : Nat} {W : World} : ∀ {ds : List Deferred}, Marks B W ds → ∀ D, ({ target := .collected D, args := #[] } : Deferred) ∈ ds → B ≤ D ∧ W.heap[D]? = some (.deferred (some []))
  | [], _, D, hD => by cases hD
  | d :: ds, h, D, hD => by
    rcases List.mem_cons.1 hD with rfl | hD
    · obtain ⟨⟨D', he, hB, hw, _⟩, _⟩ := h
      simp only [Deferred.mk.injEq, Target.collected.injEq, and_true] at he
      subst he; exact ⟨hB, hw⟩
    · exact Marks.at_ h.2 D hD
theorem Marks.keep {B : Nat} {W W' : World} : ∀ {ds : List Deferred}, Marks B W ds → (∀ D, ({ target := .collected D, args := #[] } : Deferred) ∈ ds → W.heap[D]? = some (.deferred (some [])) → W'.heap[D]? = some (.deferred (some []))) → Marks B W' ds
  | [], _, _ => trivial
  | d :: ds, h, hk => by
    obtain ⟨⟨D, he, hB, hw, hne⟩, hr⟩ := h
    exact ⟨⟨D, he, hB, hk D (by rw [he]; exact List.mem_cons_self ..) hw, hne⟩, hr.keep fun D' hD' => hk D' (List.mem_cons_of_mem _ hD')⟩
theorem Marks.below {B : Nat} {W W' : World} {ds : List Deferred} (h : Marks B W ds) (hb : Below W.heap.size W W') : Marks B W' ds :=
  h.keep fun D _ hw => (hb.block D (Array.getElem?_eq_some_iff.1 hw).1).trans hw
theorem Marks.push {B : Nat} {Ws W : World} {ds : List Deferred} (h0 : Marks B Ws ds) (h : Marks B W ds) (hB : B ≤ Ws.heap.size) {D : Nat} (hD : Ws.heap.size ≤ D) (hw : W.heap[D]? = some (.deferred (some []))) : Marks B W ({ target := .collected D, args := #[] } :: ds) :=
  ⟨⟨D, rfl, by omega, hw, fun D' hD' => by have := (Array.getElem?_eq_some_iff.1 (h0.at_ D' hD').2).1; omega⟩, h⟩
theorem Marks.stab {B Bs : Nat} {Ws : World} {ds : List Deferred} (h0 : Marks B Ws ds) (hB : Ws.heap.size ≤ Bs) : Stab Bs (fun W => Marks B W ds) := fun W W' row h hg hr =>
  h.keep fun D hD hw => Stab.lowBlk (B := Bs) D (by have := (Array.getElem?_eq_some_iff.1 (h0.at_ D hD).2).1; omega) _ W W' row hw hg hr
theorem leaves_marks {fn : Func} {R : Ending → World → Prop} {B : Nat} {tmps : Array Value} {v : Value} {Pw : World → Prop} (hR : ∀ W', Pw W' → (results fn tmps).run Try.prog W' = .ok v W' ∧ R (.returned v) W')
    (hP : ∀ W' D, Pw W' → B ≤ D → W'.heap[D]? = some (.deferred (some [])) → Pw (W'.putObj D (.deferred none))) : ∀ (ds : List Deferred) (W : World), Marks B W ds → Pw W → LeavesInM Fence.wide 2 Try.prog fn tmps R ds .returning W
  | [], W, _, hp => ⟨v, (hR W hp).1, (hR W hp).2⟩
  | d :: ds, W, h, hp => by
    obtain ⟨⟨D, he, hB, hw, hne⟩, hr⟩ := h
    subst he
    refine ⟨by simp, .inl ⟨_, _, rfl, run_takeDeferred hw, leaves_marks hR hP ds _ ?_ (hP W D hp hB hw)⟩⟩
    exact hr.keep fun D' hD' hw' => (World.putObj_heap_other (hne D' hD')).trans hw'
theorem marks_retN {fn : Func} {R : Ending → World → Prop} {a : Act} {W : World} {v : Value} {B : Nat} (Pw : World → Prop) (hm : Marks B W a.defers) (hp : Pw W)
    (hP : ∀ W' D, Pw W' → B ≤ D → W'.heap[D]? = some (.deferred (some [])) → Pw (W'.putObj D (.deferred none))) (hR : ∀ W', Pw W' → (results fn a.tmps).run Try.prog W' = .ok v W' ∧ R (.returned v) W') :
    bodyPostM Fence.wide 2 Try.prog fn R .ret a W := leaves_marks hR hP a.defers W hm hp
theorem Sl.from_ {α : Type} {f : α → List Value} {size : Nat} {w : World} {B : Nat} {A : Option Addr} {l : List α} (h : Sl f size w B A l) (hf : ∀ x, (f x).length = size) (k : Nat) (c : Nat) (hc : l.length ≤ c) :
    ∃ A', sliced A k l.length c size = .slice A' (l.length - k) (c - k) ∧ Sl f size w B A' (l.drop k) := by
  refine ⟨_, rfl, ?_⟩
  refine ⟨flat_length f size hf _, fun hn => ?_⟩
  simp only [List.length_drop] at hn
  obtain ⟨b, o, e, hb, hcell⟩ := h.2 (by omega)
  subst e
  rw [if_neg (by omega)]
  refine ⟨b, o + k * size, by simp [Go.WideShapes.add_plain], hb, fun j u hu => ?_⟩
  rw [Nat.add_assoc]
  refine hcell _ _ ?_
  have e : flat f l = flat f (l.take k) ++ flat f (l.drop k) := by
    rw [flat, flat, flat, ← List.flatMap_append, List.take_append_drop]
  have hl : (flat f (l.take k)).length = k * size := by rw [flat_length f size hf, List.length_take, Nat.min_eq_left (by omega)]
  rw [e, List.getElem?_append_right (by rw [hl]; omega), hl, show k * size + j - k * size = j by omega]
  exact hu
theorem ints_slice (A : Option Addr) (len c t : Nat) (W : World) (h : t ≤ len) : (Instr.slice 30 (.slice A len c) (some (.int .i64 (t : Int))) none none).run Try.prog W = .ok (sliced A t len c 1) W := by
  rw [run_slice_l W 30 A len c (by kernel_rfl) .i64 (t : Int) (by omega) (by omega)]
  have hs : (sizeOf (Try.prog.elem 30)).run Try.prog W = .ok 1 W := by kernel_rfl
  rw [hs, Int.toNat_natCast]
  rfl
theorem ScBox.grownP {W W' : World} {b p q len : Nat} {Q : Nat → Prop} {row : Option Nat} (h : ScBox W b p q len Q) (hg : W.grownBy W' row) (hr : ∀ r, row = some r → Q r ∨ ∃ o : Obj, W.heap[r]? = some o ∧ o.isCells = false) (hb : some b ≠ row) : ScBox W' b p q len Q := by
  obtain ⟨A, n, c, A2, n2, c2, g, hs, ha⟩ := h.at_
  exact ⟨A, n, c, A2, n2, c2, (hg.block b g.lt hb).trans g, hs.grownP ha hg hr, ha⟩
theorem ScBox.num {W : World} {b p q len p' q' len' : Nat} {Q : Nat → Prop} (h : ScBox W b p q len Q) (hp : p = p') (hq : q = q') (hl : len ≤ len') : ScBox W b p' q' len' Q := by
  subst hp; subst hq; exact h.len_ hl
/-- one cast more, for whatever score -/
theorem and_gen {m : HMd} {l : List Int} (ok : ModOk m) (hl : regB m.outs l) {k : Nat} (hk : k < l.length) {p q len lo : Nat} {u v : Value} (hlen : len ≤ 1000) {W : World} (hs : ScV p q len lo (.agg #[u, v]) W) :
    Calls Try.prog 54 #[.agg #[u, v], .agg #[.int .i64 (wtI m l k).1, .int .i64 (wtI m l k).2]] W (RetS (p * (wtI m l k).1.toNat) (q * (wtI m l k).2.toNat) (len + 1) W) := by
  have hw := wtI_bd ok hl hk
  have := scAnd_any p q len (.agg #[u, v]) (wtI m l k).1.toNat (wtI m l k).2.toNat W (by omega) (by omega) (by omega) lo hs
  rw [Int.toNat_of_nonneg hw.1, Int.toNat_of_nonneg (by omega)] at this
  exact this
theorem ScV.zero {p q len lo : Nat} {A : Option Addr} {c : Nat} {v : Value} {W : World} (h : ScV p q len lo (.agg #[.slice A 0 c, v]) W) : p = 0 := by
  obtain ⟨A', c', L, A2, c2, L2, h1, h2, _⟩ := h
  simp at h1
  have hL : L = [] := by
    have := h1.1.2.1
    first
      | exact List.eq_nil_of_length_eq_zero this.symm
      | exact this
      | exact this.symm
  subst hL
  have := h2.val
  simpa [valD] using this.symm
theorem chA_zero {a b : HMd} {l : List Int} {t k : Nat} (hk : k < (l.drop t).length) (h : ovN a l t * ovN b (l.drop t) (k + 1) = 0) : chA a b l t = 0 := by
  unfold chA
  rcases Nat.mul_eq_zero.1 h with h | h
  · rw [h, Nat.zero_mul]
  · have hl : (l.drop t).length = l.length - t := by simp
    have := ovN_zero h (l.length - t - (k + 1))
    rw [show k + 1 + (l.length - t - (k + 1)) = l.length - t by omega] at this
    rw [this, Nat.mul_zero]
theorem ChgAt.best {x y : Md} {ra : LL} {l : List Int} {b4 b9 b11 h z : Nat} {w : World} {t kx bo bu : Nat} {st : HSt} {lb : Nat} {W : World} (q : ChgAt x y ra l b4 b9 b11 h z w t kx bo bu st lb W) {p' q' lo : Nat} {A A2 : Option Addr} {n c n2 c2 : Nat}
    (hs : ScV p' q' 1000 lo (.agg #[.slice A n c, .slice A2 n2 c2]) W) (ha : ScAv (fun r => r = h ∨ r = lb) (.agg #[.slice A n c, .slice A2 n2 c2])) (h9 : b9 ≠ b11) (h4 : b4 ≠ b11) (hz : z ≤ b11) :
    ChgAt x y ra l b4 b9 b11 h z w t kx p' q' st lb ((W.setCell ⟨b11, 0, none⟩ (.slice A n c)).setCell ⟨b11, 1, none⟩ (.slice A2 n2 c2)) := by
  have a1 := q.a1; have a2 := q.a2
  obtain ⟨_, _, _, _, _, _, g, -, -⟩ := q.s11.at_
  have hT := setTwo_turn (W := W) (b := b11) (.slice A n c) (.slice A2 n2 c2)
  exact ⟨(q.bw.setCell (p := ⟨b11, 0, none⟩) hz _).setCell (p := ⟨b11, 1, none⟩) hz _, (hT.block b4 q.g4.lt h4).trans q.g4, q.s9.turn hT (fun r hr => .inr (by subst hr; exact two_noW g)) h9, q.s11.put hs ha, q.ox, q.hx.same fun k hk h9 => hT.block k hk (by omega), by simpa using q.l1, a1, a2⟩
theorem ChgAt.first {x y : Md} {ra : LL} {l : List Int} {b4 b9 b11 h z : Nat} {w : World} {t kx bo bu : Nat} {st : HSt} {lb : Nat} {W : World} (q : ChgAt x y ra l b4 b9 b11 h z w t kx bo bu st lb W) {lo : Nat} {A A2 : Option Addr} {n c n2 c2 : Nat}
    (hs : ScV (ovN x.m l (t + 1)) (unN x.m l (t + 1)) (t + 1 + 1) lo (.agg #[.slice A n c, .slice A2 n2 c2]) W) (ha : ScAv (fun r => r = h ∨ r = lb) (.agg #[.slice A n c, .slice A2 n2 c2])) (h9 : b11 ≠ b9) (h4 : b4 ≠ b9) (hz : z ≤ b9) :
    ChgAt x y ra l b4 b9 b11 h z w (t + 1) kx bo bu st lb ((W.setCell ⟨b9, 0, none⟩ (.slice A n c)).setCell ⟨b9, 1, none⟩ (.slice A2 n2 c2)) := by
  have a1 := q.a1; have a2 := q.a2
  obtain ⟨_, _, _, _, _, _, g, -, -⟩ := q.s9.at_
  have hT := setTwo_turn (W := W) (b := b9) (.slice A n c) (.slice A2 n2 c2)
  exact ⟨(q.bw.setCell (p := ⟨b9, 0, none⟩) hz _).setCell (p := ⟨b9, 1, none⟩) hz _, (hT.block b4 q.g4.lt h4).trans q.g4, q.s9.put hs ha, q.s11.turn hT (fun r hr => .inr (by subst hr; exact two_noW g)) h9, q.ox, q.hx.same fun k hk h9 => hT.block k hk (by omega), by simpa using q.l1, a1, a2⟩
theorem ChgAt.cast {x y : Md} {ra : LL} {l : List Int} {b4 b9 b11 h z : Nat} {w : World} {t kx kz bo bu : Nat} {st st2 : HSt} {lb lb2 : Nat} {W w' : World} (q : ChgAt x y ra l b4 b9 b11 h z w t kx bo bu st lb W)
    (ho : HOk x.m l kz st2) (hh : HandV x ra st2 h lb2 (hv x.kind h) w') (hor : lb2 = lb ∨ W.heap.size ≤ lb2) (hlt : lb < W.heap.size → lb2 < w'.heap.size) (hT : TurnB (fun r => r = h ∨ r = lb) W.heap.size W w') :
    ChgAt x y ra l b4 b9 b11 h z w t kz bo bu st2 lb2 w' := by
  have h1 := q.g4.lt; have h2 := q.s9.lt; have h3 := q.s11.lt; have h4 := q.l1; have h5 := q.hx.lt
  have a1 := q.a1; have a2 := q.a2
  have hq : ∀ r, (r = h ∨ r = lb ∨ r = lb2) → (r = h ∨ r = lb) ∨ W.heap.size ≤ r := fun r hr => by
    rcases hr with e | e | e
    · exact .inl (.inl e)
    · exact .inl (.inr e)
    · rcases hor with e' | e'
      · exact .inl (.inr (e.trans e'))
      · exact .inr (by omega)
  have hd : ∀ r, (r = h ∨ r = lb2) → (r = h ∨ r = lb ∨ r = lb2) ∨ w'.heap.size ≤ r := fun r hr => .inl (hr.imp id .inr)
  refine ⟨q.bw.trans ⟨hT.os, hT.tape, hT.output, hT.size, fun k hk => hT.block k (by omega) (by omega)⟩, (hT.block b4 h1 (by omega)).trans q.g4,
    ((q.s9.avoid hq).turn hT (fun r hr => .inl (by omega)) (by omega)).avoid hd, ((q.s11.avoid hq).turn hT (fun r hr => .inl (by omega)) (by omega)).avoid hd, ho, hh, hlt h4, ?_, a2⟩
  rcases hor with e | e
  · rw [e]; exact a1
  · omega
theorem Marks.turn {B b : Nat} {W W' : World} {ds : List Deferred} (h : Marks B W ds) (hT : TurnB (fun r => r = b) W.heap.size W W') {cs : Array Value} {t : TypeId} (g : Blk W b cs t) : Marks B W' ds :=
  h.keep fun D _ hw => (hT.block D (Array.getElem?_eq_some_iff.1 hw).1 (fun e => by subst e; unfold Blk at g; rw [hw] at g; cases g)).trans hw
/-- whether a candidate is better than the best one -/
theorem chg_zero {bo bu Q : Nat} : ¬ 0 < cmpN (0 * bu) (bo * Q) := by
  rw [Nat.zero_mul]
  rcases Nat.eq_zero_or_pos (bo * Q) with h | h
  · rw [h]; simp [cmpN]
  · rw [cmpN_lt h]; omega
/-- a range that is left by break, or ends: one goal for what comes behind it -/
theorem wp_rangeBQ {g : Operand} {ps : Array Tmp} {assign body : Code} {Q : Exit → Act → World → Prop} {a : Act} {w : World} {gf : Nat} {lb : Array Value}
    (hg : a.eval g = .func (.func gf) #[] lb) (eg : Ent gf) {S : Type} {blk : S → Nat → Prop} {D0 : World → Prop} {D : S → World → Prop} {Enc : Nat → World → Array Value → Prop} {N : Nat} (hit : IterS blk gf lb D0 D Enc N)
    (sl : List (Tmp × Nat)) (q : Tmp) (bc : Array Value → Array Value) (ty : TypeId) (I : S → Nat → World → Prop) (e : Nat) (J : World → Prop)
    (hI : ∀ z k, (∀ r, blk z r → w.heap.size + 1 < r) → StabP w.heap.size (blk z) (I z k)) (hIm : ∀ z z' k V V', I z k V → Below V.heap.size V V' → (∀ r, blk z' r → blk z r ∨ V.heap.size ≤ r) → I z' k V') (hJ : Stab w.heap.size J) (hDs : ∀ z W b o', (∀ r, blk z r → w.heap.size + 1 < r) → w.heap.size ≤ b → b ≤ w.heap.size + 1 → D z W → D z (W.putObj b o')) (hDb : ∀ z W W', D z W → Below W.heap.size W W' → D z W') (hE : ∀ k xs, Stab w.heap.size (fun W => Enc k W xs))
    (hD0 : ∀ W, Below w.heap.size w W → D0 W) (h0 : ∀ z W, (∀ r, blk z r → w.heap.size + 1 < r) → Below w.heap.size w W → I z 0 W)
    (hps : ∀ k W xs, Enc k W xs → xs.size = ps.size)
    (hassign : ∀ l k xs W (K : Act → World → Prop), Enc k W xs → (∀ W', Below W.heap.size W W' → Blk W' W.heap.size (bc xs) ty → K (roundActB a.tmps ps sl q W.heap.size xs) W') → assign.wpIn (Fence.wide.inRound l) 1 Try.prog (Exit.then K (fun _ _ _ => False)) { tmps := (ps.zip xs).foldl (fun t (p, v) => t.setIfInBounds p v) a.tmps, defers := [] } W)
    (hbody : ∀ l z k xs b W, (∀ r, blk z r → w.heap.size + 1 < r) → k < N → I z k W → D z W → Enc k W xs → Blk W b (bc xs) ty → w.heap.size < l → l < w.heap.size + 2 → body.wpIn (Fence.wide.inRound l) 1 Try.prog (roundOut w.heap.size (fun W' => I z (k + 1) W' ∧ D z W') (fun c W' => c = .exit e ∧ J W') W) (roundActB a.tmps ps sl q b xs) W)
    (hIJ : ∀ z W, (∀ r, blk z r → w.heap.size + 1 < r) → I z N W → J W) (hQ : ∀ a W, Q .normal a W → Q (.exit e) a W)
    (hdone : ∀ D W, J W → w.heap.size ≤ D → W.heap[D]? = some (.deferred (some [])) → Q .normal { a with defers := { target := .collected D, args := #[] } :: a.defers } W) :
    (Code.rangeFunc g ps assign body).wp Try.prog Q a w :=
  wp_rangeBP hg eg hit sl q bc ty I (fun c W => c = .exit e ∧ J W) hI hIm (fun c => (Stab.pure _).and hJ) hDs hDb hE hD0 h0 hps hassign hbody (fun z D W hz hi h1 h2 => hdone D W (hIJ z W hz hi) h1 h2)
    (fun D c W ⟨hc, hj⟩ h1 h2 => by subst hc; exact wp_exit (hQ _ _ (hdone D W hj h1 h2)))
theorem hT_nil (k : Int) (hk : k = 1 ∨ k = 2 ∨ k = 3) (h : Nat) (w : World) : (nilAhead 274 (hT k) (.pointer (some ⟨h, 0, none⟩)) "astragal/habit.cast").run Try.prog w = .ok (some false) w := by
  rcases hk with rfl | rfl | rfl <;> kernel_rfl
theorem HandV.cells_ {x : Md} {r0 : LL} {st : HSt} {h lb : Nat} {v : Value} {W : World} (hh : HandV x r0 st h lb v W) {ds : Option (List Deferred)} : W.heap[h]? ≠ some (.deferred ds) := fun e => by
  rcases hh with ⟨_, _, hb⟩ | ⟨_, _, hb⟩ | ⟨_, _, _, _, _, hb, _⟩ <;> (unfold Blk at hb; rw [e] at hb; cases hb)
theorem TurnB.cell {P : Nat → Prop} {B : Nat} {w w' : World} (h : TurnB P B w w') {b : Nat} (hb : b < B) (hp : ¬ P b) (o : Nat) : w'.cell? ⟨b, o, none⟩ = w.cell? ⟨b, o, none⟩ := by
  unfold World.cell?
  rw [h.block b hb hp]
end Go.Proofs.Ytiikkcifdhcejaa

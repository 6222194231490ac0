/- habit: Belief: two hands side by side. -/
import Derived.Test.YtiikkcifdhcejaaWn
import Derived.Test.YtiikkcifdhcejaaWm
import Derived.Test.YtiikkcifdhcejaaZ18Hf
import Derived.Test.YtiikkcifdhcejaaZ16Pr
namespace Go.Proofs.Ytiikkcifdhcejaa
open Go.RowKit

/-- two hands, the belief, the result's cell -/
structure BelAt (x y : Md) (ra rb : LL) (l : List Int) (h h' bc br z : Nat) (w : World) (kx ky : Nat) (c : Ch) (st st' : HSt) (lb lb' : Nat) (W : World) : Prop where
  bw : Below z w W
  ox : HOk x.m l kx st
  oy : HOk y.m l ky st'
  hx : HandV x ra st h lb (hv x.kind h) W
  hy : HandV y rb st' h' lb' (hv y.kind h') W
  gc : Blk W bc #[.int .i64 c.n, .int .i64 c.d] 27
  gr : Blk W br #[.int .i64 0, .int .i64 0] 27
  l1 : lb < W.heap.size
  l2 : lb' < W.heap.size
  a1 : lb ≠ h' ∧ lb ≠ bc ∧ lb ≠ br ∧ z ≤ lb
  a2 : lb' ≠ h ∧ lb' ≠ bc ∧ lb' ≠ br ∧ z ≤ lb'
  a3 : lb ≠ lb'
  a4 : h ≠ h'
  a5 : h ≠ bc ∧ h ≠ br ∧ z ≤ h
  a6 : h' ≠ bc ∧ h' ≠ br ∧ z ≤ h'
theorem BelAt.swap {x y : Md} {ra rb : LL} {l : List Int} {h h' bc br z : Nat} {w : World} {kx ky : Nat} {c : Ch} {st st' : HSt} {lb lb' : Nat} {W : World} (q : BelAt x y ra rb l h h' bc br z w kx ky c st st' lb lb' W) :
    BelAt y x rb ra l h' h bc br z w ky kx c st' st lb' lb W := ⟨q.bw, q.oy, q.ox, q.hy, q.hx, q.gc, q.gr, q.l2, q.l1, q.a2, q.a1, q.a3.symm, q.a4.symm, q.a6, q.a5⟩
theorem BelAt.cast {x y : Md} {ra rb : LL} {l : List Int} {h h' bc br z : Nat} {w : World} {kx ky kz : Nat} {c : Ch} {st st' st2 : HSt} {lb lb' lb2 : Nat} {W w' : World} (q : BelAt x y ra rb l h h' bc br z w kx ky c st st' lb lb' W)
    (ho : HOk x.m l kz st2) (hh : HandV x ra st2 h lb2 (hv x.kind h) w') (hor : lb2 = lb ∨ W.heap.size ≤ lb2) (hlt : lb < W.heap.size → lb2 < w'.heap.size) (hT : TurnB (fun r => r = h ∨ r = lb) W.heap.size W w') :
    BelAt x y ra rb l h h' bc br z w kz ky c st2 st' lb2 lb' w' := by
  have h1 := q.hy.lt; have h2 := q.gc.lt; have h3 := q.gr.lt; have h4 := q.l2; have h5 := q.hx.lt
  have a1 := q.a1; have a2 := q.a2; have a3 := q.a3; have a4 := q.a4; have a5 := q.a5; have a6 := q.a6
  have hz : z ≤ W.heap.size := by omega
  refine ⟨q.bw.trans ⟨hT.os, hT.tape, hT.output, hT.size, fun k hk => hT.block k (by omega) (by omega)⟩, ho, q.oy, hh, q.hy.same fun k hk h9 => hT.block k hk (by omega), (hT.block bc h2 (by omega)).trans q.gc, (hT.block br h3 (by omega)).trans q.gr, hlt q.l1, Nat.lt_of_lt_of_le h4 hT.size, ?_, a2, ?_, a4, a5, a6⟩
  · rcases hor with e | e
    · rw [e]; exact a1
    · omega
  · rcases hor with e | e
    · rw [e]; exact a3
    · omega
theorem BelAt.below {x y : Md} {ra rb : LL} {l : List Int} {h h' bc br z : Nat} {w : World} {kx ky : Nat} {c : Ch} {st st' : HSt} {lb lb' : Nat} {W W' : World} (q : BelAt x y ra rb l h h' bc br z w kx ky c st st' lb lb' W) (hb : Below W.heap.size W W') :
    BelAt x y ra rb l h h' bc br z w kx ky c st st' lb lb' W' := by
  have h5 := q.hx.lt; have a5 := q.a5
  exact ⟨q.bw.trans (hb.mono (by omega)), q.ox, q.oy, q.hx.same fun k hk _ => hb.block k hk, q.hy.same fun k hk _ => hb.block k hk, q.gc.below hb q.gc.lt, q.gr.below hb q.gr.lt, Nat.lt_of_lt_of_le q.l1 hb.size, Nat.lt_of_lt_of_le q.l2 hb.size, q.a1, q.a2, q.a3, q.a4, q.a5, q.a6⟩
theorem BelAt.put {x y : Md} {ra rb : LL} {l : List Int} {h h' bc br z : Nat} {w : World} {kx ky : Nat} {c : Ch} {st st' : HSt} {lb lb' : Nat} {W : World} (q : BelAt x y ra rb l h h' bc br z w kx ky c st st' lb lb' W) (hz : z ≤ bc) (hne : br ≠ bc) (n d : Int) :
    BelAt x y ra rb l h h' bc br z w kx ky ⟨n, d⟩ st st' lb lb' ((W.setCell ⟨bc, 0, none⟩ (.int .i64 n)).setCell ⟨bc, 1, none⟩ (.int .i64 d)) := by
  have a1 := q.a1; have a2 := q.a2; have a5 := q.a5; have a6 := q.a6
  have hp : ∀ k, k ≠ bc → ((W.setCell ⟨bc, 0, none⟩ (.int .i64 n)).setCell ⟨bc, 1, none⟩ (.int .i64 d)).heap[k]? = W.heap[k]? := fun k hk => (Below.heap_setCell _ _ _ k hk).trans (Below.heap_setCell _ _ _ k hk)
  have m := (q.gc.set 0 (.int .i64 n)).set 1 (.int .i64 d)
  simp at m
  exact ⟨(q.bw.setCell (p := ⟨bc, 0, none⟩) hz _).setCell (p := ⟨bc, 1, none⟩) hz _, q.ox, q.oy, q.hx.same fun k hk _ => hp k (by omega), q.hy.same fun k hk _ => hp k (by omega), m, (hp _ hne).trans q.gr, by simpa using q.l1, by simpa using q.l2, q.a1, q.a2, q.a3, q.a4, q.a5, q.a6⟩
def twoL (a b : HMd) (l : List Int) : List Two := (List.range l.length).map fun i => ⟨(wtI a l i).1, (wtI a l i).2, (wtI b l i).1, (wtI b l i).2⟩
def belR (c : Ch) (a b : HMd) (l : List Int) : Int × Int × Int :=
  if okC c = false then (0, 0, 2) else if 1000000000 < c.d then (0, 0, 3) else if regsE [a, b] l = 0 then belGo (twoL a b l) c else (0, 0, regsE [a, b] l)
theorem twoL_drop {a b : HMd} {l : List Int} {k : Nat} (hk : k < l.length) : (twoL a b l).drop k = ⟨(wtI a l k).1, (wtI a l k).2, (wtI b l k).1, (wtI b l k).2⟩ :: (twoL a b l).drop (k + 1) := by
  unfold twoL
  rw [List.drop_eq_getElem_cons (by simpa using hk)]
  simp
theorem twoL_end (a b : HMd) (l : List Int) : (twoL a b l).drop l.length = [] := by
  unfold twoL
  apply List.drop_eq_nil_of_le
  simp
theorem Md.cons_of {x : Md} (h : ModOk x.m) : ∃ r0 t, x.rows = r0 :: t := by
  obtain ⟨r, t, e⟩ := h.rows0
  cases hq : x.rows with
  | nil => simp [Md.m, hq] at e
  | cons a b => exact ⟨a, b, rfl⟩
/-- a cast by a hand of a model that may be read -/
theorem castO_any (x : Md) (r0 : LL) (t : List LL) (hx0 : x.rows = r0 :: t) (ok : ModOk x.m) (l : List Int) (hl : regB x.m.outs l) (hlen : l.length ≤ 1000000) (i : Nat) (hi : i < l.length) (st : HSt) (hok : HOk x.m l i st) (h lb z : Nat) (w : World)
    (hzh : z ≤ h) (hzl : z ≤ lb) (hzw : z ≤ w.heap.size) (hrd : x.reads w z) (hh : HandV x r0 st h lb (hv x.kind h) w) (y : Int) (hy : l.getD i 0 = y) :
    Calls Try.prog (castF x.kind) #[.pointer (some ⟨h, 0, none⟩), .int .i64 y] w fun e w' => e = .returned (.agg #[.int .i64 (wtI x.m l i).1, .int .i64 (wtI x.m l i).2]) ∧ ∃ st2 lb2, HOk x.m l (i + 1) st2 ∧ HandV x r0 st2 h lb2 (hv x.kind h) w' ∧ (lb2 = lb ∨ w.heap.size ≤ lb2) ∧ (lb < w.heap.size → lb2 < w'.heap.size) ∧ TurnB (fun r => r = h ∨ r = lb) w.heap.size w w' := by
  have hoc := (hok.cast hi (fun hk => by rcases ok.kind with ⟨k, _⟩ | ⟨k, _⟩ | ⟨_, _, k, _⟩ <;> omega) (wtI_cast_lt ok hl hi).1 (wtI_cast_lt ok hl hi).2).2
  subst hy
  exact (castV_any x r0 t hx0 ok l hl hlen i hi st hok h lb z (hv x.kind h) w hzh hzl hzw hrd hh).mono fun e w' ⟨h1, lb2, h2, h3, h4, h5⟩ => ⟨h1, _, lb2, hoc, h2, h3, h4, h5⟩
theorem bel_start {x y : Md} {ra rb : LL} {l : List Int} {h h' bc br z : Nat} {w W : World} {n d : Int} (hb : Below z w W) (hx : HandV x ra st0 h h (hv x.kind h) W) (hy : HandV y rb st0 h' h' (hv y.kind h') W) (gc : Blk W bc #[.int .i64 n, .int .i64 d] 27) (gr : Blk W br #[.int .i64 0, .int .i64 0] 27)
    (a4 : h ≠ h') (a5 : h ≠ bc ∧ h ≠ br ∧ z ≤ h) (a6 : h' ≠ bc ∧ h' ≠ br ∧ z ≤ h') : BelAt x y ra rb l h h' bc br z w 0 0 ⟨n, d⟩ st0 st0 h h' W :=
  ⟨hb, HOk.start _ _, HOk.start _ _, hx, hy, gc, gr, hx.lt, hy.lt, ⟨a4, a5⟩, ⟨a4.symm, a6⟩, a4, a4, a5, a6⟩
set_option maxRecDepth 100000 in
set_option maxHeartbeats 4000000 in
theorem belF_any (c : Ch) (x y : Md) (l : List Int) (lA : Option Addr) (lc : Nat) (w : World) (hlen : l.length ≤ 1000000) (hx : x.reads w w.heap.size) (hy : y.reads w w.heap.size) (hl : Sl intCell 1 w w.heap.size lA l) :
    Calls Try.prog 16 #[.agg #[.int .i64 c.n, .int .i64 c.d], .agg #[.int .i64 x.kind, .slice x.a x.rows.length x.c, .int .i64 x.after], .agg #[.int .i64 y.kind, .slice y.a y.rows.length y.c, .int .i64 y.after], .slice lA l.length lc] w (RetC (belR c x.m y.m l) w) := by
  obtain ⟨er, her⟩ : ∃ e, e = regsE [x.m, y.m] l := ⟨_, rfl⟩
  have HC : Hid (∀ W, Below w.heap.size w W → ∀ b, Blk W b #[.int .i64 x.kind, .slice x.a x.rows.length x.c, .int .i64 x.after, .int .i64 y.kind, .slice y.a y.rows.length y.c, .int .i64 y.after] 25 → Calls Try.prog 40 #[.slice lA l.length lc, .slice (some ⟨b, 0, none⟩) 2 2] W fun e w' => e = .returned (.int .i64 er) ∧ Below W.heap.size W w') := Lib.hid fun W hW b hb => by
    rw [her]; exact checkR_any lA lc l (some ⟨b, 0, none⟩) 2 [x, y] W hlen (by simp) ((hl.below hW).more hW.size) (mds_two hb ((hx.below hW).more hW.size) ((hy.below hW).more hW.size))
  have HR := Lib.hid her
  have HX := Lib.hid hx; have HY := Lib.hid hy; have HL := Lib.hid hl
  obtain ⟨⟨qn, qd, e1⟩, hq⟩ : ∃ q : Int × Int × Int, q = notR c := ⟨_, rfl⟩
  have HN : Hid (∀ W, Calls Try.prog 43 #[.agg #[.int .i64 c.n, .int .i64 c.d]] W (RetC (qn, qd, e1) W)) := Lib.hid fun W => by rw [hq]; exact not_any c W
  have HQ : Hid (e1 = if okC c = false then 2 else 0) := (by
    show e1 = _
    unfold notR at hq
    cases ho : okC c <;> simp [ho] at hq ⊢ <;> exact hq.2.2 : e1 = _)
  clear hx hy hl her hq
  go_enter Try.func16, Try.ntmps16
  go_upto_region 1 with fail
  obtain ⟨b4, hb4⟩ : ∃ b, b = w.heap.size := ⟨_, rfl⟩
  rw [← hb4]
  refine gen_w (fun W => b4 + 1 + 1 + 1 < W.heap.size ∧ Below w.heap.size w W ∧ Blk W b4 #[.int .i64 c.n, .int .i64 c.d] 27 ∧ Blk W (b4 + 1) #[.int .i64 x.kind, .slice x.a x.rows.length x.c, .int .i64 x.after] 25 ∧ Blk W (b4 + 1 + 1) #[.int .i64 y.kind, .slice y.a y.rows.length y.c, .int .i64 y.after] 25 ∧ Blk W (b4 + 1 + 1 + 1) #[.int .i64 0, .int .i64 0] 27) ⟨by simp [hb4], by (repeat (first | exact Below.refl _ _ | assumption | (refine Below.alloc ?_ (by first | omega | (simp; omega) | (simp; done)) _) | (refine Below.setCell ?_ (by first | omega | (simp; omega) | (simp; done)) _) | (refine Below.drew ?_) | (refine belowN ?_ _) | (refine Below.trans ?_ (Below.mono ‹Below _ _ _› (by first | omega | (simp; omega) | (simp; done)))))), (((Blk.at_ hb4).alloc _).alloc _).alloc _, ((Blk.at_ (by simp [hb4])).alloc _).alloc _, (Blk.at_ (by simp [hb4])).alloc _, Blk.at_ (by simp [hb4])⟩ ?_
  rintro V ⟨hVz, hV, g4, g5, g6, g8⟩
  have hwb : w.heap.size ≤ b4 := by omega
  have d0 := g4.cell 0; have d1 := g4.cell 1
  simp at d0 d1
  clear hb4
  go_wp2_with (first | (go_at_call 43; refine (HN.out _).mono ?_; rintro _ w1 ⟨rfl, hb1⟩; refine Hid.out ?_) | fail)
  have hV := bl2 hV hb1
  have g4 := g4.below hb1 (by omega)
  have g5 := g5.below hb1 (by omega)
  have g6 := g6.below hb1 (by omega)
  have g8 := g8.below hb1 (by omega)
  have hVz : b4 + 1 + 1 + 1 < w1.heap.size := by have := hb1.size; omega
  clear hb1 d0 d1
  refine Lib.hid ?_
  go_upto_region 2 with fail
  refine gen_w (fun W => b4 + 1 + 1 + 1 < W.heap.size ∧ Below w.heap.size w W ∧ Blk W b4 #[.int .i64 c.n, .int .i64 c.d] 27 ∧ Blk W (b4 + 1) #[.int .i64 x.kind, .slice x.a x.rows.length x.c, .int .i64 x.after] 25 ∧ Blk W (b4 + 1 + 1) #[.int .i64 y.kind, .slice y.a y.rows.length y.c, .int .i64 y.after] 25 ∧ Blk W (b4 + 1 + 1 + 1) #[.int .i64 0, .int .i64 0] 27) ⟨by simp; omega, by (repeat (first | exact Below.refl _ _ | assumption | (refine Below.alloc ?_ (by first | omega | (simp; omega) | (simp; done)) _) | (refine Below.setCell ?_ (by first | omega | (simp; omega) | (simp; done)) _) | (refine Below.drew ?_) | (refine belowN ?_ _) | (refine Below.trans ?_ (Below.mono ‹Below _ _ _› (by first | omega | (simp; omega) | (simp; done)))))), g4.alloc _, g5.alloc _, g6.alloc _, g8.alloc _⟩ ?_
  clear hVz hV g4 g5 g6 g8
  rintro V1 ⟨hVz, hV, g4, g5, g6, g8⟩
  have d0 := g4.cell 0; have d1 := g4.cell 1
  have j0 := g5.cell 0; have j1 := g5.cell 1; have j2 := g5.cell 2
  have k0 := g6.cell 0; have k1 := g6.cell 1; have k2 := g6.cell 2
  simp at d0 d1 j0 j1 j2 k0 k1 k2
  by_cases ho : okC c = false
  · have HEX : Hid (belR c x.m y.m l = (0, 0, 2)) := (by show _ = _; unfold belR; rw [if_pos ho] : _)
    obtain rfl : e1 = 2 := by rw [HQ.out, if_pos ho]
    have c8 := g8.cell 0; have c9 := g8.cell 1; have f8 := g8.free 0; have f9 := g8.free 1
    simp at c8 c9
    go_wp2_with fail
    have m8 := (g8.set 0 (.int .i64 0)).set 1 (.int .i64 0)
    simp at m8
    have x0 := m8.cell 0; have x1 := m8.cell 1
    simp at x0 x1
    refine bodyPost_ret (v := .tuple #[.agg #[.int .i64 0, .int .i64 0], .int .i64 2]) (by simp [results, Try.results16, go_sem, x0, x1]) rfl ?_
    rw [HEX.out]
    exact ⟨rfl, (hV.setCell (by show w.heap.size ≤ b4 + 1 + 1 + 1; omega) _).setCell (by show w.heap.size ≤ b4 + 1 + 1 + 1; omega) _⟩
  obtain rfl : e1 = 0 := by rw [HQ.out, if_neg ho]
  have ok : OkC c := okC_iff.1 (by simpa using ho)
  by_cases hd : 1000000000 < c.d
  · have HEX : Hid (belR c x.m y.m l = (0, 0, 3)) := (by show _ = _; unfold belR; rw [if_neg ho, if_pos hd] : _)
    have hQ : decide ((1000000000 : Int) < c.d) = true := by simp; exact hd
    have c8 := g8.cell 0; have c9 := g8.cell 1; have f8 := g8.free 0; have f9 := g8.free 1
    simp at c8 c9
    go_wp2_with fail
    have m8 := (g8.set 0 (.int .i64 0)).set 1 (.int .i64 0)
    simp at m8
    have x0 := m8.cell 0; have x1 := m8.cell 1
    simp at x0 x1
    refine bodyPost_ret (v := .tuple #[.agg #[.int .i64 0, .int .i64 0], .int .i64 3]) (by simp [results, Try.results16, go_sem, x0, x1]) rfl ?_
    rw [HEX.out]
    exact ⟨rfl, (hV.setCell (by show w.heap.size ≤ b4 + 1 + 1 + 1; omega) _).setCell (by show w.heap.size ≤ b4 + 1 + 1 + 1; omega) _⟩
  have hQ : decide ((1000000000 : Int) < c.d) = false := by simp; omega
  have HO := Lib.hid ho
  by_cases h0 : er = 0
  · subst h0
    have hz := regs_zero HR.out.symm
    have hmx := hz.1 x.m (by simp)
    have hmy := hz.1 y.m (by simp)
    obtain ⟨⟨rn, rd, re⟩, hres⟩ : ∃ q : Int × Int × Int, q = belGo (twoL x.m y.m l) c := ⟨_, rfl⟩
    have HEX : Hid (belR c x.m y.m l = (rn, rd, re)) := (by show _ = _; unfold belR; rw [if_neg HO.out, if_neg hd, if_pos HR.out.symm, ← hres] : _)
    have HRS := Lib.hid hres
    have hl4 := hz.2
    have HMX := Lib.hid hmx; have HMY := Lib.hid hmy
    obtain ⟨ra, ta, hxa⟩ := Md.cons_of hmx.1
    obtain ⟨rb, tb, hyb⟩ := Md.cons_of hmy.1
    have HXA := Lib.hid hxa; have HYB := Lib.hid hyb; have HOK := Lib.hid ok; have HD := Lib.hid hd
    clear hz hmx hmy hxa hyb hres ok ho
    go_wp2_with (first | (go_at_call 40; refine (HC.out _ (by (repeat (first | exact Below.refl _ _ | assumption | (refine Below.alloc ?_ (by first | omega | (simp; omega) | (simp; done)) _) | (refine Below.setCell ?_ (by first | omega | (simp; omega) | (simp; done)) _) | (refine Below.drew ?_) | (refine belowN ?_ _) | (refine Below.trans ?_ (Below.mono ‹Below _ _ _› (by first | omega | (simp; omega) | (simp; done))))))) _ (Blk.new V1 _ _)).mono ?_; rintro _ w1 ⟨rfl, hb1⟩; refine Hid.out ?_) | fail)
    have hb1V : Below V1.heap.size V1 w1 := ((Below.refl _ V1).alloc (Nat.le_refl _) _).trans (hb1.mono (by simp))
    have hV := bl2 hV hb1V
    have g4 := g4.below hb1V (by omega)
    have g5 := g5.below hb1V (by omega)
    have g6 := g6.below hb1V (by omega)
    have g8 := g8.below hb1V (by omega)
    have hVz : b4 + 1 + 1 + 1 < w1.heap.size := by have := hb1V.size; omega
    clear hb1 hb1V d0 d1 j0 j1 j2 k0 k1 k2 hQ hd
    have d0 := g4.cell 0; have d1 := g4.cell 1
    have j0 := g5.cell 0; have j1 := g5.cell 1; have j2 := g5.cell 2
    have k0 := g6.cell 0; have k1 := g6.cell 1; have k2 := g6.cell 2
    simp at d0 d1 j0 j1 j2 k0 k1 k2
    have HSX := Lib.hid (fun W (hW : Below w.heap.size w W) => startH_any x ra ta W ((HX.out.below hW).more hW.size) HXA.out HMX.out.1)
    have HSY := Lib.hid (fun W (hW : Below w.heap.size w W) => startH_any y rb tb W ((HY.out.below hW).more hW.size) HYB.out HMY.out.1)
    refine Lib.hid ?_
    go_wp2_with fail
    go_cut [13, 14, 15] (fun s13 s14 s15 wx => ∃ h h' bc, s13 = hv x.kind h ∧ s14 = hv y.kind h' ∧ s15 = .pointer (some ⟨bc, 0, none⟩) ∧ b4 + 1 + 1 + 1 < bc ∧ BelAt x y ra rb l h h' bc (b4 + 1 + 1 + 1) w.heap.size w 0 0 c st0 st0 h h' wx)
    case first =>
      as_aux_lemma =>
        go_region_held3 (fun W' => W'.cell? ⟨b4, 0, none⟩ = some (.int .i64 c.n) ∧ W'.cell? ⟨b4, 1, none⟩ = some (.int .i64 c.d) ∧ W'.cell? ⟨b4 + 1, 0, none⟩ = some (.int .i64 x.kind) ∧ W'.cell? ⟨b4 + 1, 1, none⟩ = some (.slice x.a x.rows.length x.c) ∧ W'.cell? ⟨b4 + 1, 2, none⟩ = some (.int .i64 x.after) ∧ W'.cell? ⟨b4 + 1 + 1, 0, none⟩ = some (.int .i64 y.kind) ∧ W'.cell? ⟨b4 + 1 + 1, 1, none⟩ = some (.slice y.a y.rows.length y.c) ∧ W'.cell? ⟨b4 + 1 + 1, 2, none⟩ = some (.int .i64 y.after)) (first | exact ⟨d0, d1, j0, j1, j2, k0, k1, k2⟩ | (refine ⟨?_, ?_, ?_, ?_, ?_, ?_, ?_, ?_⟩ <;> (refine (World.cell?_setCell_far _ _ _ _ (by simp; omega)).trans ((World.cell?_setCell_far _ _ _ _ (by simp; omega)).trans ?_); assumption)) | go_keep) (first | (go_at_call 44; (with_reducible refine (HSY.out _ (bl2 hV (by (repeat (first | exact Below.refl _ _ | assumption | (refine Below.alloc ?_ (by first | omega | (simp; omega) | (simp; done)) _) | (refine Below.setCell ?_ (by first | omega | (simp; omega) | (simp; done)) _) | (refine Below.drew ?_) | (refine belowN ?_ _) | (refine Below.trans ?_ (Below.mono ‹Below _ _ _› (by first | omega | (simp; omega) | (simp; done))))))))).mono ?_); rintro _ w4 ⟨v4, h4, rfl, hh4, hge4, hb4⟩; obtain rfl := hh4.val; have hby : Below w1.heap.size w1 w4 := Below.trans (by (repeat (first | exact Below.refl _ _ | assumption | (refine Below.alloc ?_ (by first | omega | (simp; omega) | (simp; done)) _) | (refine Below.setCell ?_ (by first | omega | (simp; omega) | (simp; done)) _) | (refine Below.drew ?_) | (refine belowN ?_ _) | (refine Below.trans ?_ (Below.mono ‹Below _ _ _› (by first | omega | (simp; omega) | (simp; done))))))) (hb4.mono (by first | omega | (simp; omega))); have hb34 : Below w3.heap.size w3 w4 := Below.trans (by (repeat (first | exact Below.refl _ _ | assumption | (refine Below.alloc ?_ (by first | omega | (simp; omega) | (simp; done)) _) | (refine Below.setCell ?_ (by first | omega | (simp; omega) | (simp; done)) _) | (refine Below.drew ?_) | (refine belowN ?_ _) | (refine Below.trans ?_ (Below.mono ‹Below _ _ _› (by first | omega | (simp; omega) | (simp; done))))))) (hb4.mono (by simp)); have hz4 := hby.size; have hz34 := hb34.size; have hyl := hh4.lt; (try (have gc : Blk w4 w1.heap.size #[.int .i64 0, .int .i64 0] 27 := gc.below hb34 gc.lt)); (try (have gc : Blk w4 w3.heap.size #[.int .i64 0, .int .i64 0] 27 := (Blk.new w3 _ _).below hb4 (by simp))); (try simp at hge4); have HX3 := Lib.hid (HX3.out.same fun k hk _ => hb34.block k hk); have HY4 := Lib.hid hh4; have g4 := g4.below hb34 g4.lt; have g5 := g5.below hb34 g5.lt; have g6 := g6.below hb34 g6.lt; have g8 := g8.below hb34 g8.lt; (try (have gc0 := gc.cell 0; have gc1 := gc.cell 1; have gf0 := gc.free 0; have gf1 := gc.free 1; have gl0 := gc.lt; simp at gc0 gc1)); (have d0 := g4.cell 0; have d1 := g4.cell 1; have j0 := g5.cell 0; have j1 := g5.cell 1; have j2 := g5.cell 2; have k0 := g6.cell 0; have k1 := g6.cell 1; have k2 := g6.cell 2; simp at d0 d1 j0 j1 j2 k0 k1 k2); clear hh4 hb4) | (go_at_call 44; (with_reducible refine (HSX.out _ (by (repeat (first | exact Below.refl _ _ | assumption | (refine Below.alloc ?_ (by first | omega | (simp; omega) | (simp; done)) _) | (refine Below.setCell ?_ (by first | omega | (simp; omega) | (simp; done)) _) | (refine Below.drew ?_) | (refine belowN ?_ _) | (refine Below.trans ?_ (Below.mono ‹Below _ _ _› (by first | omega | (simp; omega) | (simp; done)))))))).mono ?_); rintro _ w3 ⟨v3, h3, rfl, hh3, hge3, hb3⟩; obtain rfl := hh3.val; have hbx : Below w1.heap.size w1 w3 := Below.trans (by (repeat (first | exact Below.refl _ _ | assumption | (refine Below.alloc ?_ (by first | omega | (simp; omega) | (simp; done)) _) | (refine Below.setCell ?_ (by first | omega | (simp; omega) | (simp; done)) _) | (refine Below.drew ?_) | (refine belowN ?_ _) | (refine Below.trans ?_ (Below.mono ‹Below _ _ _› (by first | omega | (simp; omega) | (simp; done))))))) (hb3.mono (by simp)); have hz3 := hbx.size; have hxl := hh3.lt; (try (have gc : Blk w3 w1.heap.size #[.int .i64 0, .int .i64 0] 27 := (hb3.block w1.heap.size (by simp)).trans (by first | exact heap_alloc_new _ _ | exact heap_alloc_new w1.drew _))); (try simp at hge3); have HX3 := Lib.hid hh3; have g4 := g4.below hbx g4.lt; have g5 := g5.below hbx g5.lt; have g6 := g6.below hbx g6.lt; have g8 := g8.below hbx g8.lt; (try (have gc0 := gc.cell 0; have gc1 := gc.cell 1; have gf0 := gc.free 0; have gf1 := gc.free 1; have gl0 := gc.lt; simp at gc0 gc1)); (have d0 := g4.cell 0; have d1 := g4.cell 1; have j0 := g5.cell 0; have j1 := g5.cell 1; have j2 := g5.cell 2; have k0 := g6.cell 0; have k1 := g6.cell 1; have k2 := g6.cell 2; simp at d0 d1 j0 j1 j2 k0 k1 k2); clear hh3 hb3) | fail)
        all_goals (
          go_wp2_with fail
          go_meet
          first
            | exact ⟨h3, h4, w3.heap.size, rfl, rfl, rfl, by omega, (bel_start (bl2 hV hby) HX3.out HY4.out gc g8 (by omega) ⟨by omega, by omega, by omega⟩ ⟨by omega, by omega, by omega⟩).put (by omega) (by omega) c.n c.d⟩
            | exact ⟨h3, h4, w1.heap.size, rfl, rfl, rfl, by omega, (bel_start (bl2 hV hby) HX3.out HY4.out gc g8 (by omega) ⟨by omega, by omega, by omega⟩ ⟨by omega, by omega, by omega⟩).put (by omega) (by omega) c.n c.d⟩
            | exact ⟨h3, h4, w4.heap.size, rfl, rfl, rfl, by omega, bel_start ((bl2 hV hby).alloc (by have := hV.size; omega) _) (HX3.out.same fun k hk _ => ((Below.refl w4.heap.size w4).alloc (Nat.le_refl _) _).block k hk) (HY4.out.same fun k hk _ => ((Below.refl w4.heap.size w4).alloc (Nat.le_refl _) _).block k hk) (Blk.new w4 _ _) (g8.alloc _) (by omega) ⟨by omega, by omega, by omega⟩ ⟨by omega, by omega, by omega⟩⟩)
    case rest =>
      obtain ⟨h, h', bc, rfl, rfl, rfl, hbc, HB⟩ := hcut
      have hmx := fun w => hT_method x.kind HB.hx.kind h w
      have hcx := fun args w => castF_enter x.kind HB.hx.kind args w
      have hmy := fun w => hT_method y.kind HB.hy.kind h' w
      have hcy := fun args w => castF_enter y.kind HB.hy.kind args w
      rw [hv, hv]
      obtain ⟨TX, hTX⟩ : ∃ q, q = hT x.kind := ⟨_, rfl⟩
      obtain ⟨CX, hCX⟩ : ∃ q, q = castF x.kind := ⟨_, rfl⟩
      obtain ⟨TY, hTY⟩ : ∃ q, q = hT y.kind := ⟨_, rfl⟩
      obtain ⟨CY, hCY⟩ : ∃ q, q = castF y.kind := ⟨_, rfl⟩
      rw [← hTX, ← hTY]
      rw [← hTX, ← hCX] at hmx
      rw [← hTY, ← hCY] at hmy
      rw [← hCX] at hcx
      rw [← hCY] at hcy
      have HTX := Lib.hid hTX; have HTY := Lib.hid hTY; have HCX := Lib.hid hCX; have HCY := Lib.hid hCY
      have HBB := Lib.hid HB
      have hzb : b4 + 1 + 1 + 1 < bc := hbc
      have hWz := HB.hx.lt
      have hh5 := HB.a5; have hh6 := HB.a6; have hh4 := HB.a4
      clear g4 g5 g6 g8 d0 d1 j0 j1 j2 k0 k1 k2 hTX hTY hCX hCY HB hV
      rename World => wb
      go_wp2_with fail
      go_loopw [53] (fun i wr => ∃ k : Nat, k ≤ l.length ∧ i = .int .i64 k ∧ w.heap.size ≤ wr.heap.size ∧ Hid (∃ c' st st' lb lb', OkC c' ∧ c'.d ≤ 1000000000 ∧ belGo ((twoL x.m y.m l).drop k) c' = (rn, rd, re) ∧ BelAt x y ra rb l h h' bc (b4 + 1 + 1 + 1) w.heap.size w k k c' st st' lb lb' wr)) (fun i _ => l.length - (intOf i).toNat)
      case atStart => exact ⟨0, by omega, rfl, by have := HBB.out.bw.size; omega, c, st0, st0, h, h', HOK.out, by have := HD.out; omega, HRS.out.symm, HBB.out⟩
      case round =>
        obtain ⟨k, hk, rfl, hwr, hj⟩ := hrel
        clear HBB
        by_cases hlt : k < l.length
        · obtain ⟨c', st, st', lb, lb', ok', hd', hgo, hB⟩ := hj.out
          obtain ⟨b, o, rfl, hb, hc⟩ := (HL.out.below hB.bw).int_at hlt
          have e1 : l.getD k 0 = l[k] := by simp [hlt]
          obtain ⟨y0, hy0⟩ : ∃ q, q = l[k] := ⟨_, rfl⟩
          rw [← hy0] at hc e1
          have a1 := hB.a1; have a2 := hB.a2
          have HC1 := Lib.hid (castO_any x ra ta HXA.out HMX.out.1 l HMX.out.2.2 hlen k hlt st hB.ox h lb w.heap.size wr (by omega) (by omega) hwr (HX.out.below hB.bw) hB.hx y0 e1)
          rw [← HCX.out] at HC1
          have hax := wtI_bd HMX.out.1 HMX.out.2.2 hlt
          have hay := wtI_bd HMY.out.1 HMY.out.2.2 hlt
          rw [twoL_drop hlt] at hgo
          have HB := Lib.hid hB; have HE1 := Lib.hid e1
          have HC2 := Lib.hid (fun w3 st2 lb2 (q : BelAt x y ra rb l h h' bc (b4 + 1 + 1 + 1) w.heap.size w (k + 1) k c' st2 st' lb2 lb' w3) => castO_any y rb tb HYB.out HMY.out.1 l HMY.out.2.2 hlen k hlt st' q.oy h' lb' w.heap.size w3 (by omega) (by omega) (by have := q.hy.lt; omega) (HY.out.below q.bw) q.hy y0 e1)
          rw [← HCY.out] at HC2
          obtain ⟨wa, hwa⟩ : ∃ q, q = (wtI x.m l k).1 := ⟨_, rfl⟩
          obtain ⟨sa, hsa⟩ : ∃ q, q = (wtI x.m l k).2 := ⟨_, rfl⟩
          obtain ⟨wb_, hwb_⟩ : ∃ q, q = (wtI y.m l k).1 := ⟨_, rfl⟩
          obtain ⟨sb, hsb⟩ : ∃ q, q = (wtI y.m l k).2 := ⟨_, rfl⟩
          rw [← hwa, ← hsa] at HC1 hax
          rw [← hwb_, ← hsb] at HC2 hay
          rw [← hwa, ← hsa, ← hwb_, ← hsb] at hgo
          have hbl : b < wr.heap.size := by omega
          clear hj hB hwa hsa hwb_ hsb hy0 e1
          go_wp2_with fail
          refine HC1.out.mono ?_
          rintro _ w3 ⟨rfl, st2, lb2, ho2, hh2, hor2, hlt2, hT2⟩
          have hB3 := HB.out.cast ho2 hh2 hor2 hlt2 hT2
          have HB3 := Lib.hid hB3
          clear ho2 hh2 hor2 hlt2 hT2 hB3
          go_wp2_with fail
          refine (HC2.out w3 st2 lb2 HB3.out).mono ?_
          rintro _ w4 ⟨rfl, st3, lb3, ho3, hh3, hor3, hlt3, hT3⟩
          have hB4 := (HB3.out.swap.cast ho3 hh3 hor3 hlt3 hT3).swap
          have HB4 := Lib.hid hB4
          clear ho3 hh3 hor3 hlt3 hT3 hB4 hc
          go_wp2_with fail
          obtain ⟨b18, hb18⟩ : ∃ q, q = w4.heap.size := ⟨_, rfl⟩
          rw [← hb18]
          refine gen_w (fun W => Blk W b18 #[.int .i64 wa, .int .i64 sa] 87 ∧ Blk W (b18 + 1) #[.int .i64 wb_, .int .i64 sb] 87 ∧ BelAt x y ra rb l h h' bc (b4 + 1 + 1 + 1) w.heap.size w (k + 1) (k + 1) c' st2 st3 lb2 lb3 W) ⟨(Blk.at_ hb18).alloc _, Blk.at_ (by simp [hb18]), (HB4.out.below ((Below.refl _ _).alloc (Nat.le_refl _) _)).below ((Below.refl _ _).alloc (Nat.le_refl _) _)⟩ ?_
          clear hb18 HB HB3 HB4 HC1 HC2
          rintro V3 ⟨g18, g19, hB⟩
          obtain ⟨p1, p2, p3⟩ := bel_bd ok' (by omega) (t := ⟨wa, sa, wb_, sb⟩) ⟨⟨hax.1, by show wa ≤ 32000; omega⟩, ⟨hax.2.2.1, by show sa ≤ 32000; omega⟩, ⟨hay.1, by show wb_ ≤ 32000; omega⟩, ⟨hay.2.2.1, by show sb ≤ 32000; omega⟩⟩
          simp only at p1 p2 p3
          have n0 := ok'.n0; have n1 := ok'.n1; have dd1 := ok'.d1
          have e1 : 0 ≤ c'.n * wa := Int.mul_nonneg n0 hax.1
          have e2 : c'.n * wa ≤ 1000000000 * 1000 := Int.mul_le_mul (by omega) hax.2.1 hax.1 (by omega)
          have e3 : 0 ≤ (c'.d - c'.n) * wb_ := Int.mul_nonneg (by omega) hay.1
          have e4 : (c'.d - c'.n) * wb_ ≤ 1000000000 * 1000 := Int.mul_le_mul (by omega) hay.2.1 hay.1 (by omega)
          have W1 : IntKind.i64.wrap (c'.n * wa) = c'.n * wa := IntWalk.i64_in _ ⟨by omega, by omega⟩
          have W2 : IntKind.i64.wrap (c'.n * wa * sb) = c'.n * wa * sb := IntWalk.i64_in _ ⟨by omega, by omega⟩
          have W3 : IntKind.i64.wrap (c'.d - c'.n) = c'.d - c'.n := IntWalk.i64_in _ ⟨by omega, by omega⟩
          have W4 : IntKind.i64.wrap ((c'.d - c'.n) * wb_) = (c'.d - c'.n) * wb_ := IntWalk.i64_in _ ⟨by omega, by omega⟩
          have W5 : IntKind.i64.wrap ((c'.d - c'.n) * wb_ * sa) = (c'.d - c'.n) * wb_ * sa := IntWalk.i64_in _ ⟨by omega, by omega⟩
          have q0 := hB.gc.cell 0; have q1 := hB.gc.cell 1
          have q2 := g18.cell 0; have q3 := g18.cell 1; have q4 := g19.cell 0; have q5 := g19.cell 1
          simp at q0 q1 q2 q3 q4 q5
          clear e1 e2 e3 e4
          have hst2 : (belGo ((⟨wa, sa, wb_, sb⟩ : Two) :: (twoL x.m y.m l).drop (k + 1)) c' = (rn, rd, re)) := hgo
          have HGO := Lib.hid hst2
          have HB := Lib.hid hB
          clear hgo hst2 hB
          go_quiet (fail)
          obtain ⟨ys, hys⟩ : ∃ q, q = c'.n * wa * sb := ⟨_, rfl⟩
          obtain ⟨no, hno⟩ : ∃ q, q = (c'.d - c'.n) * wb_ * sa := ⟨_, rfl⟩
          rw [← hys, ← hno]
          have hg := HGO.out
          simp only [belGo, ← hys, ← hno] at hg
          rw [← hys, ← hno] at p3
          rw [← hys] at p1
          rw [← hno] at p2
          have W6 : IntKind.i64.wrap (ys + no) = ys + no := IntWalk.i64_in _ ⟨by omega, by omega⟩
          have hst := bel_step ok' (by omega) (t := ⟨wa, sa, wb_, sb⟩) ⟨⟨hax.1, by show wa ≤ 32000; omega⟩, ⟨hax.2.2.1, by show sa ≤ 32000; omega⟩, ⟨hay.1, by show wb_ ≤ 32000; omega⟩, ⟨hay.2.2.1, by show sb ≤ 32000; omega⟩⟩
          simp only [← hys, ← hno] at hst
          have HST := Lib.hid hst
          clear hst
          refine gen_w (fun W => BelAt x y ra rb l h h' bc (b4 + 1 + 1 + 1) w.heap.size w (k + 1) (k + 1) c' st2 st3 lb2 lb3 W) (HB.out.below (by (repeat (first | exact Below.refl _ _ | assumption | (refine Below.alloc ?_ (by first | omega | (simp; omega) | (simp; done)) _) | (refine Below.setCell ?_ (by first | omega | (simp; omega) | (simp; done)) _) | (refine Below.drew ?_) | (refine belowN ?_ _) | (refine Below.trans ?_ (Below.mono ‹Below _ _ _› (by first | omega | (simp; omega) | (simp; done)))))))) ?_
          clear HB q0 q1 q2 q3 q4 q5 W1 W2 W3 W4 W5 hys hno g18 g19 HGO
          rintro V4 hB
          by_cases h9 : ys + no = 0
          · have hQ9 : (ys + no == 0) = true := by simp; exact h9
            rw [if_pos h9] at hg
            obtain ⟨rfl, rfl, rfl⟩ : (0 : Int) = rn ∧ (0 : Int) = rd ∧ (7 : Int) = re := by simp at hg; exact hg
            have hV := hB.bw; have g8 := hB.gr
            clear hB h9 hg
            have c8 := g8.cell 0; have c9 := g8.cell 1; have f8 := g8.free 0; have f9 := g8.free 1
            simp at c8 c9
            go_wp2_with fail
            have m8 := (g8.set 0 (.int .i64 0)).set 1 (.int .i64 0)
            simp at m8
            have x0 := m8.cell 0; have x1 := m8.cell 1
            simp at x0 x1
            refine bodyPost_ret (v := .tuple #[.agg #[.int .i64 0, .int .i64 0], .int .i64 7]) (by simp [results, Try.results16, go_sem, x0, x1]) rfl ?_
            rw [HEX.out]
            exact ⟨rfl, (hV.setCell (by show w.heap.size ≤ b4 + 1 + 1 + 1; omega) _).setCell (by show w.heap.size ≤ b4 + 1 + 1 + 1; omega) _⟩
          · have hQ9 : (ys + no == 0) = false := by simp; exact h9
            rw [if_neg h9] at hg
            have HCH := Lib.hid (fun W => chanS_any ys (ys + no) W (by omega) (by omega) (by omega) (by omega))
            obtain ⟨N, hN⟩ : ∃ q, q = ratN ys (ys + no) := ⟨_, rfl⟩
            obtain ⟨Dn, hDn⟩ : ∃ q, q = ratD ys (ys + no) := ⟨_, rfl⟩
            have hst := HST.out h9
            rw [← hDn] at hst
            rw [← hN] at hst
            rw [← hN, ← hDn] at hg HCH
            have HG := Lib.hid hg; have HST := Lib.hid hst
            clear hg hst h9 hN hDn
            have q0 := hB.gc.cell 0; have q1 := hB.gc.cell 1; have f0 := hB.gc.free 0; have f1 := hB.gc.free 1
            simp at q0 q1
            have HB := Lib.hid hB
            clear hB
            go_wp2_with (first | (go_at_call 45; refine (HCH.out _).mono ?_; rintro _ w5 ⟨rfl, hb5⟩; refine Hid.out ?_) | fail)
            have hB5 := HB.out.below hb5
            have q0 := hB5.gc.cell 0; have q1 := hB5.gc.cell 1; have f0 := hB5.gc.free 0; have f1 := hB5.gc.free 1
            simp at q0 q1
            have hB6 := hB5.put (by omega) (by omega) N Dn
            have HB6 := Lib.hid hB6
            clear hb5 hB5 hB6 HB
            refine Lib.hid ?_
            go_upto_region 18 with fail
            refine gen_w (fun W => BelAt x y ra rb l h h' bc (b4 + 1 + 1 + 1) w.heap.size w (k + 1) (k + 1) ⟨N, Dn⟩ st2 st3 lb2 lb3 W) HB6.out ?_
            clear HB6 q0 q1 f0 f1
            rintro V6 hB
            have q0 := hB.gc.cell 0; have q1 := hB.gc.cell 1
            simp at q0 q1
            by_cases h8 : 1000000000 < Dn
            · have hQ8 : decide (1000000000 < Dn) = true := by simp; exact h8
              have hg := HG.out
              rw [if_pos h8] at hg
              obtain ⟨rfl, rfl, rfl⟩ : (0 : Int) = rn ∧ (0 : Int) = rd ∧ (10 : Int) = re := by simp at hg; exact hg
              have hV := hB.bw; have g8 := hB.gr
              clear hB h8 hg
              have c8 := g8.cell 0; have c9 := g8.cell 1; have f8 := g8.free 0; have f9 := g8.free 1
              simp at c8 c9
              go_wp2_with fail
              have m8 := (g8.set 0 (.int .i64 0)).set 1 (.int .i64 0)
              simp at m8
              have x0 := m8.cell 0; have x1 := m8.cell 1
              simp at x0 x1
              refine bodyPost_ret (v := .tuple #[.agg #[.int .i64 0, .int .i64 0], .int .i64 10]) (by simp [results, Try.results16, go_sem, x0, x1]) rfl ?_
              rw [HEX.out]
              exact ⟨rfl, (hV.setCell (by show w.heap.size ≤ b4 + 1 + 1 + 1; omega) _).setCell (by show w.heap.size ≤ b4 + 1 + 1 + 1; omega) _⟩
            · have hQ8 : decide (1000000000 < Dn) = false := by simp; omega
              have hg := HG.out
              rw [if_neg h8] at hg
              have HG := Lib.hid hg
              have hDn8 : Dn ≤ 1000000000 := by omega
              have HST := Lib.hid (HST.out (by omega))
              have HB := Lib.hid hB
              have hz9 : w.heap.size ≤ V6.heap.size := by have := hB.hx.lt; omega
              clear hg h8 hB
              go_wp2_with fail
              refine ⟨⟨k + 1, by omega, by go_num, hz9, ⟨N, Dn⟩, st2, st3, lb2, lb3, HST.out, hDn8, HG.out, HB.out⟩, ?_⟩
              simp [intOf]; omega
        · obtain rfl : k = l.length := by omega
          obtain ⟨c', st, st', lb, lb', ok', hd', hgo, hB⟩ := hj.out
          rw [twoL_end] at hgo
          obtain ⟨rfl, rfl, rfl⟩ : c'.n = rn ∧ c'.d = rd ∧ 0 = re := by simp [belGo] at hgo; exact hgo
          have c8 := hB.gr.cell 0; have c9 := hB.gr.cell 1; have f8 := hB.gr.free 0; have f9 := hB.gr.free 1
          have q0 := hB.gc.cell 0; have q1 := hB.gc.cell 1
          simp at c8 c9 q0 q1
          have g8 := hB.gr; have hV := hB.bw
          clear hj hB hgo
          go_wp2_with fail
          have m8 := (g8.set 0 (.int .i64 c'.n)).set 1 (.int .i64 c'.d)
          simp at m8
          have x0 := m8.cell 0; have x1 := m8.cell 1
          simp at x0 x1
          refine bodyPost_ret (v := .tuple #[.agg #[.int .i64 c'.n, .int .i64 c'.d], .int .i64 0]) (by simp [results, Try.results16, go_sem, x0, x1]) rfl ?_
          rw [HEX.out]
          exact ⟨rfl, (hV.setCell (by show w.heap.size ≤ b4 + 1 + 1 + 1; omega) _).setCell (by show w.heap.size ≤ b4 + 1 + 1 + 1; omega) _⟩
  · have hQ0 : (er != 0) = true := by simp; exact h0
    have HEX : Hid (belR c x.m y.m l = (0, 0, er)) := (by show _ = _; unfold belR; rw [if_neg ho, if_neg hd, if_neg (by rw [← HR.out]; exact h0), ← HR.out] : _)
    go_wp2_with (first | (go_at_call 40; refine (HC.out _ (by (repeat (first | exact Below.refl _ _ | assumption | (refine Below.alloc ?_ (by first | omega | (simp; omega) | (simp; done)) _) | (refine Below.setCell ?_ (by first | omega | (simp; omega) | (simp; done)) _) | (refine Below.drew ?_) | (refine belowN ?_ _) | (refine Below.trans ?_ (Below.mono ‹Below _ _ _› (by first | omega | (simp; omega) | (simp; done))))))) _ (Blk.new V1 _ _)).mono ?_; rintro _ w1 ⟨rfl, hb1⟩; refine Hid.out ?_) | fail)
    have hb1V : Below V1.heap.size V1 w1 := ((Below.refl _ V1).alloc (Nat.le_refl _) _).trans (hb1.mono (by simp))
    have g8 := g8.below hb1V (by omega)
    have hV := bl2 hV hb1V
    have hVz : b4 + 1 + 1 + 1 < w1.heap.size := by have := hb1V.size; omega
    clear hb1 hb1V
    refine Lib.hid ?_
    have c8 := g8.cell 0; have c9 := g8.cell 1; have f8 := g8.free 0; have f9 := g8.free 1
    simp at c8 c9
    go_wp2_with fail
    have m8 := (g8.set 0 (.int .i64 0)).set 1 (.int .i64 0)
    simp at m8
    have x0 := m8.cell 0; have x1 := m8.cell 1
    simp at x0 x1
    refine bodyPost_ret (v := .tuple #[.agg #[.int .i64 0, .int .i64 0], .int .i64 er]) (by simp [results, Try.results16, go_sem, x0, x1]) rfl ?_
    rw [HEX.out]
    exact ⟨rfl, (hV.setCell (by show w.heap.size ≤ b4 + 1 + 1 + 1; omega) _).setCell (by show w.heap.size ≤ b4 + 1 + 1 + 1; omega) _⟩
end Go.Proofs.Ytiikkcifdhcejaa

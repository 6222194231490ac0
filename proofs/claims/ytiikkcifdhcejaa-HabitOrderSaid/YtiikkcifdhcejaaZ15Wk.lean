/- habit: ranges over shares with a loop variable in a box; shares, Excluded. -/
import Derived.Test.YtiikkcifdhcejaaZ14ItS
import Derived.Test.YtiikkcifdhcejaaZ01Cls
namespace Go.Proofs.Ytiikkcifdhcejaa
open Go.RowKit
attribute [local go_sem] Oper.semAt_some

theorem wp_rangeBP {g : Operand} {ps : Array Tmp} {assign body : Code} {Q : Exit → Act → World → Prop} {a : Act} {w : World} {gf : Nat} {lb : Array Value}
    (hg : a.eval g = .func (.func gf) #[] lb) (eg : Ent gf) {S : Type} {blk : S → Nat → Prop} {D0 : World → Prop} {D : S → World → Prop} {Enc : Nat → World → Array Value → Prop} {N : Nat} (hit : IterS blk gf lb D0 D Enc N)
    (sl : List (Tmp × Nat)) (q : Tmp) (bc : Array Value → Array Value) (ty : TypeId) (I : S → Nat → World → Prop) (Ix : Code → World → Prop)
    (hI : ∀ z k, (∀ r, blk z r → w.heap.size + 1 < r) → StabP w.heap.size (blk z) (I z k)) (hIm : ∀ z z' k V V', I z k V → Below V.heap.size V V' → (∀ r, blk z' r → blk z r ∨ V.heap.size ≤ r) → I z' k V') (hIx : ∀ c, Stab w.heap.size (Ix c)) (hDs : ∀ z W b o', (∀ r, blk z r → w.heap.size + 1 < r) → w.heap.size ≤ b → b ≤ w.heap.size + 1 → D z W → D z (W.putObj b o')) (hDb : ∀ z W W', D z W → Below W.heap.size W W' → D z W') (hE : ∀ k xs, Stab w.heap.size (fun W => Enc k W xs))
    (hD0 : ∀ W, Below w.heap.size w W → D0 W) (h0 : ∀ z W, (∀ r, blk z r → w.heap.size + 1 < r) → Below w.heap.size w W → I z 0 W)
    (hps : ∀ k W xs, Enc k W xs → xs.size = ps.size)
    (hassign : ∀ l k xs W (K : Act → World → Prop), Enc k W xs → (∀ W', Below W.heap.size W W' → Blk W' W.heap.size (bc xs) ty → K (roundActB a.tmps ps sl q W.heap.size xs) W') → assign.wpIn (Fence.wide.inRound l) 1 Try.prog (Exit.then K (fun _ _ _ => False)) { tmps := (ps.zip xs).foldl (fun t (p, v) => t.setIfInBounds p v) a.tmps, defers := [] } W)
    (hbody : ∀ l z k xs b W, (∀ r, blk z r → w.heap.size + 1 < r) → k < N → I z k W → D z W → Enc k W xs → Blk W b (bc xs) ty → w.heap.size < l → l < w.heap.size + 2 → body.wpIn (Fence.wide.inRound l) 1 Try.prog (roundOut w.heap.size (fun W' => I z (k + 1) W' ∧ D z W') Ix W) (roundActB a.tmps ps sl q b xs) W)
    (hdone : ∀ z D W, (∀ r, blk z r → w.heap.size + 1 < r) → I z N W → w.heap.size ≤ D → W.heap[D]? = some (.deferred (some [])) → Q .normal { a with defers := { target := .collected D, args := #[] } :: a.defers } W)
    (hstop : ∀ D c W, Ix c W → w.heap.size ≤ D → W.heap[D]? = some (.deferred (some [])) → c.wp Try.prog Q { a with defers := { target := .collected D, args := #[] } :: a.defers } W) :
    (Code.rangeFunc g ps assign body).wp Try.prog Q a w := by
  refine wp_rangeP hg eg hit I Ix (fun z k a₁ W => I z k W ∧ D z W ∧ ∃ xs b, Enc k W xs ∧ Blk W b (bc xs) ty ∧ a₁ = roundActB a.tmps ps sl q b xs) hI hIm hIx hDs
    (fun z k a₁ W b o o' hz h1 h2 ho hoc ⟨hi, hd, xs, bx, he, hbk, e⟩ => ⟨(hI z k hz).stab.putObj _ hi h1 ho hoc, hDs z _ _ _ hz h1 h2 hd, xs, bx, (hE k xs).putObj _ he h1 ho hoc, (Stab.blk bx _ _ _).putObj _ hbk h1 ho hoc, e⟩) hD0 h0
    (fun k W xs _ h => hps k W xs h) (fun l z k xs W hz hk hi hd he _ _ => ?_) (fun l z k a₁ W hz hk hax h1 h2 => ?_) hdone hstop
  · refine wpIn_mono (hassign l k xs W (fun a₁ W' => a₁ = roundActB a.tmps ps sl q W.heap.size xs ∧ Below W.heap.size W W' ∧ Blk W' W.heap.size (bc xs) ty) he (fun W' h1 h2 => ⟨rfl, h1, h2⟩)) ?_
    intro e a₁ W' hp
    cases e with
    | normal => obtain ⟨rfl, hb, hbk⟩ := hp; exact ⟨keepsFrom_below hb, (hI z k hz).stab.below hi hb, hDb z _ _ hd hb, xs, W.heap.size, (hE k xs).below he hb, hbk, rfl⟩
    | ret => exact hp.elim
    | exit id => exact hp.elim
    | goto t => exact hp.elim
    | panic ch => exact hp.elim
    | outgrown => exact hp.elim
  · obtain ⟨hi, hd, xs, bx, he, hbk, rfl⟩ := hax
    exact hbody l z k xs bx W hz hk hi hd he hbk h1 h2
theorem LeftAt.put_ {W : World} {b k : Nat} {l : List Int} {o' : Obj} (h : LeftAt W b l) (hb : b ≠ k) : LeftAt (W.putObj k o') b l := by
  obtain ⟨cur, h1, h2⟩ := h
  exact ⟨cur, (World.putObj_heap_other hb).trans h1, h2⟩
theorem HandV.same {x : Md} {r0 : LL} {st : HSt} {h lb : Nat} {v : Value} {W W' : World} (hh : HandV x r0 st h lb v W) (h1 : ∀ k, k < W.heap.size → k = h ∨ k = lb → W'.heap[k]? = W.heap[k]?) : HandV x r0 st h lb v W' := by
  rcases hh with ⟨hk, e, hb⟩ | ⟨hk, e, hb⟩ | ⟨hk, e, LA, LN, LC, hb, hl⟩
  · exact .inl ⟨hk, e, (h1 h hb.lt (.inl rfl)).trans hb⟩
  · exact .inr (.inl ⟨hk, e, (h1 h hb.lt (.inl rfl)).trans hb⟩)
  · refine .inr (.inr ⟨hk, e, LA, LN, LC, (h1 h hb.lt (.inl rfl)).trans hb, fun h0 => ?_⟩)
    obtain ⟨e1, e2, ⟨cur, h3, h4⟩, e4⟩ := hl h0
    exact ⟨e1, e2, ⟨cur, (h1 lb h3.lt (.inr rfl)).trans h3, h4⟩, e4⟩
theorem ShD.below {x : Md} {r0 : LL} {l : List Int} {lA : Option Addr} {lc b1 b2 z : Nat} {s : Nat × Nat × HSt} {W W' : World} (h : ShD x r0 l lA lc b1 b2 z s W) (hb : Below W.heap.size W W') : ShD x r0 l lA lc b1 b2 z s W' :=
  ⟨h.1.same fun k hk _ => hb.block k hk, h.2.1.keep (hb.mono (Nat.le_trans h.2.1.zb (Nat.le_of_lt h.2.1.k1.lt))) (hb.block _ h.2.1.k1.lt) (hb.block _ h.2.1.k2.lt), Nat.lt_of_lt_of_le h.2.2 hb.size⟩
theorem ShD.putObj {x : Md} {r0 : LL} {l : List Int} {lA : Option Addr} {lc b1 b2 z : Nat} {s : Nat × Nat × HSt} {W : World} (h : ShD x r0 l lA lc b1 b2 z s W) {b : Nat} (o : Obj) (hz : z ≤ b) (h1 : b ≠ s.1) (h2 : b ≠ s.2.1) (h3 : b ≠ b1) (h4 : b ≠ b2) : ShD x r0 l lA lc b1 b2 z s (W.putObj b o) := by
  have hp : ∀ k, k ≠ b → (W.putObj b o).heap[k]? = W.heap[k]? := fun k hk => World.putObj_heap_other hk
  refine ⟨h.1.same fun k _ hk => hp k ?_, h.2.1.keep ⟨rfl, rfl, rfl, by simp [World.putObj], fun k hk => hp k (by omega)⟩ (hp _ (Ne.symm h3)) (hp _ (Ne.symm h4)), by have := h.2.2; simpa [World.putObj] using this⟩
  rcases hk with rfl | rfl
  · exact Ne.symm h1
  · exact Ne.symm h2
abbrev shF (b : Nat) : Value := .func (.func 80) #[] #[.pointer (some ⟨b, 0, none⟩), .pointer (some ⟨b + 1, 0, none⟩)]
set_option maxRecDepth 100000 in
theorem shares_any (x : Md) (l : List Int) (lA : Option Addr) (lc z : Nat) (w : World) (hz : z ≤ w.heap.size) (hx : x.reads w z) (hl : Sl intCell 1 w z lA l) :
    Calls Try.prog 53 #[.agg #[.int .i64 x.kind, .slice x.a x.rows.length x.c, .int .i64 x.after], .slice lA l.length lc] w fun e w' => e = .returned (shF w.heap.size) ∧ ShAt x l lA lc w.heap.size (w.heap.size + 1) z w' ∧ Below w.heap.size w w' ∧ w'.heap.size = w.heap.size + 2 := by
  have HX := Lib.hid hx; have HL := Lib.hid hl
  clear hx hl
  go_enter Try.func53, Try.ntmps53
  go_wp2
  go_ret
  have hbb : Below w.heap.size w ((w.alloc (.cells #[.int .i64 x.kind, .slice x.a x.rows.length x.c, .int .i64 x.after] 25)).alloc (.cells #[.slice lA l.length lc] 30)) := by (repeat (first | exact Below.refl _ _ | assumption | (refine Below.alloc ?_ (by first | omega | (simp; omega) | (simp; done)) _) | (refine Below.setCell ?_ (by first | omega | (simp; omega) | (simp; done)) _) | (refine Below.drew ?_) | (refine belowN ?_ _) | (refine Below.trans ?_ (Below.mono ‹Below _ _ _› (by first | omega | (simp; omega) | (simp; done))))))
  exact ⟨rfl, ⟨(Blk.at_ rfl).alloc _, Blk.at_ (by simp), HX.out.below (hbb.mono hz), HL.out.below (hbb.mono hz), hz⟩, hbb, by simp⟩
/-- what no error means -/
theorem inE_zero {n : Int} {l : List Int} (h : inE n l = 0) : l.length ≤ 400 ∧ (n < 1000000000000000 → ∀ y ∈ l, 0 ≤ y ∧ y < n) := by
  unfold inE at h
  by_cases h1 : 400 < l.length
  · rw [if_pos h1] at h; cases h
  · rw [if_neg h1] at h
    refine ⟨by omega, fun hn y hy => ?_⟩
    by_cases h2 : n < 1000000000000000 ∧ l.any (outB n) = true
    · rw [if_pos h2] at h; cases h
    · have h3 : ¬ l.any (outB n) = true := fun e => h2 ⟨hn, e⟩
      rw [List.any_eq_true] at h3
      have h4 : ¬ outB n y = true := fun e => h3 ⟨y, hy, e⟩
      simp only [outB, decide_eq_true_eq] at h4
      omega
theorem regs_zero {m0 : HMd} {ms : List HMd} {l : List Int} (h : regsE (m0 :: ms) l = 0) : (∀ m ∈ m0 :: ms, ModOk m ∧ m.outs = m0.outs ∧ regB m.outs l) ∧ l.length ≤ 400 := by
  unfold regsE at h
  by_cases h1 : modsB (m0 :: ms) = true
  · rw [if_pos h1] at h
    have h2 := inE_zero h
    unfold modsB at h1
    rw [List.all_eq_true] at h1
    have h0 := h1 m0 (by simp)
    rw [Bool.and_eq_true] at h0
    have hk := modB_iff.1 h0.1
    refine ⟨fun m hm => ?_, h2.1⟩
    have h3 := h1 m hm
    rw [Bool.and_eq_true, decide_eq_true_eq] at h3
    have h4 : m.outs = m0.outs := h3.2
    refine ⟨modB_iff.1 h3.1, h4, ?_⟩
    rw [h4]
    exact h2.2 (by show (m0.outs : Int) < _; have := hk.n32; omega)
  · rw [if_neg h1] at h; cases h
theorem mds_one {x : Md} {W : World} {b : Nat} {t : TypeId} (h : Blk W b #[.int .i64 x.kind, .slice x.a x.rows.length x.c, .int .i64 x.after] t) (hx : x.reads W W.heap.size) : Mds W W.heap.size (some ⟨b, 0, none⟩) [x] :=
  ⟨sl_one h (by simp [flat, Md.cells]) (by simp [flat, Md.cells]), fun y hy => by simp at hy; subst hy; exact hx⟩
theorem mds_two {x y : Md} {W : World} {b : Nat} {t : TypeId} (h : Blk W b #[.int .i64 x.kind, .slice x.a x.rows.length x.c, .int .i64 x.after, .int .i64 y.kind, .slice y.a y.rows.length y.c, .int .i64 y.after] t) (hx : x.reads W W.heap.size) (hy : y.reads W W.heap.size) : Mds W W.heap.size (some ⟨b, 0, none⟩) [x, y] :=
  ⟨sl_one h (by simp [flat, Md.cells]) (by simp [flat, Md.cells]), fun q hq => by simp at hq; rcases hq with rfl | rfl <;> assumption⟩
/-- the first of the casts from k on that is excluded, or -1 -/
def exclGo (m : HMd) (l : List Int) : Nat → Nat → Int
  | _, 0 => -1
  | k, n + 1 => if (wtI m l k).1 = 0 then (k : Int) else exclGo m l (k + 1) n
def exclR (m : HMd) (l : List Int) : Int × Int := if regsE [m] l = 0 then (exclGo m l 0 l.length, 0) else (0, regsE [m] l)
theorem exclGo_none {m : HMd} {l : List Int} : ∀ (n k : Nat), (∀ j, k ≤ j → j < k + n → (wtI m l j).1 ≠ 0) → exclGo m l k n = -1
  | 0, _, _ => rfl
  | n + 1, k, h => by
    rw [exclGo, if_neg (h k (Nat.le_refl _) (by omega))]
    exact exclGo_none n (k + 1) fun j h1 h2 => h j (by omega) (by omega)
theorem exclGo_some {m : HMd} {l : List Int} {i : Nat} (h0 : (wtI m l i).1 = 0) : ∀ (n k : Nat), k ≤ i → i < k + n → (∀ j, k ≤ j → j < i → (wtI m l j).1 ≠ 0) → exclGo m l k n = i
  | 0, _, _, h, _ => by omega
  | n + 1, k, hk, hn, h => by
    rw [exclGo]
    by_cases e : k = i
    · subst e; rw [if_pos h0]
    · rw [if_neg (h k (Nat.le_refl _) (by omega))]
      exact exclGo_some h0 n (k + 1) (by omega) (by omega) fun j h1 h2 => h j (by omega) h2
set_option maxRecDepth 100000 in
set_option maxHeartbeats 4000000 in
theorem excl_any (x : Md) (l : List Int) (lA : Option Addr) (lc : Nat) (w : World) (hlen : l.length ≤ 1000000) (hx : x.reads w w.heap.size) (hl : Sl intCell 1 w w.heap.size lA l) :
    Calls Try.prog 27 #[.agg #[.int .i64 x.kind, .slice x.a x.rows.length x.c, .int .i64 x.after], .slice lA l.length lc] w fun e w' => e = .returned (.tuple #[.int .i64 (exclR x.m l).1, .int .i64 (exclR x.m l).2]) ∧ Below w.heap.size w w' := by
  have HX := Lib.hid hx; have HL := Lib.hid hl
  obtain ⟨er, her⟩ : ∃ e, e = regsE [x.m] l := ⟨_, rfl⟩
  have HC : Hid (∀ W, Below w.heap.size w W → ∀ b, Blk W b #[.int .i64 x.kind, .slice x.a x.rows.length x.c, .int .i64 x.after] 25 → Calls Try.prog 40 #[.slice lA l.length lc, .slice (some ⟨b, 0, none⟩) 1 1] W fun e w' => e = .returned (.int .i64 er) ∧ Below W.heap.size W w') := Lib.hid fun W hW b hb => by
    rw [her]; exact checkR_any lA lc l (some ⟨b, 0, none⟩) 1 [x] W hlen (by simp) ((hl.below hW).more hW.size) (mds_one hb ((hx.below hW).more hW.size))
  have HS := Lib.hid (fun W (hW : Below w.heap.size w W) => shares_any x l lA lc w.heap.size W hW.size (hx.below hW) (hl.below hW))
  have HR := Lib.hid her
  clear hx hl her
  refine calls_marks Try.func27 rfl ?_
  simp only [Try.ntmps27, List.size_toArray, List.length_cons, List.length_nil, Nat.reduceAdd, Nat.reduceSub, Array.replicate_succ, Array.replicate_zero, List.push_toArray, List.append_toArray, List.nil_append, List.cons_append]
  go_upto_region 1 with fail
  obtain ⟨b2, hb2⟩ : ∃ b, b = w.heap.size := ⟨_, rfl⟩
  rw [← hb2]
  refine gen_w (fun W => W.heap.size = b2 + 3 ∧ Below w.heap.size w W ∧ Blk W b2 #[.int .i64 x.kind, .slice x.a x.rows.length x.c, .int .i64 x.after] 25 ∧ Blk W (b2 + 1) #[.int .i64 0] 3 ∧ Blk W (b2 + 1 + 1) #[.int .i64 0] 33) ⟨by simp [hb2], by (repeat (first | exact Below.refl _ _ | assumption | (refine Below.alloc ?_ (by first | omega | (simp; omega) | (simp; done)) _) | (refine Below.setCell ?_ (by first | omega | (simp; omega) | (simp; done)) _) | (refine Below.drew ?_) | (refine belowN ?_ _) | (refine Below.trans ?_ (Below.mono ‹Below _ _ _› (by first | omega | (simp; omega) | (simp; done)))))), ((Blk.at_ hb2).alloc _).alloc _, (Blk.at_ (by simp [hb2])).alloc _, Blk.at_ (by simp [hb2])⟩ ?_
  rintro V ⟨hVz, hV, g1, g2, g3⟩
  have hwb : w.heap.size ≤ b2 := by omega
  have d0 := g1.cell 0; have d1 := g1.cell 1; have d2 := g1.cell 2
  simp at d0 d1 d2
  have hvl : b2 + 1 + 1 < V.heap.size := by omega
  clear hb2 hVz
  by_cases h0 : er = 0
  · subst h0
    have hz := regs_zero HR.out.symm
    have hmod := (hz.1 x.m (by simp)).1
    have hreg := (hz.1 x.m (by simp)).2.2
    obtain ⟨r0, t, hx0⟩ : ∃ r0 t, x.rows = r0 :: t := by
      obtain ⟨r, t, e⟩ := hmod.rows0
      cases hq : x.rows with
      | nil => simp [Md.m, hq] at e
      | cons a b => exact ⟨a, b, rfl⟩
    have HX0 := Lib.hid hx0
    clear hx0
    have HEX : Hid (exclR x.m l = (exclGo x.m l 0 l.length, 0)) := (by show _ = _; unfold exclR; rw [if_pos HR.out.symm] : _)
    go_wp2_with (first | (go_at_call 40; refine (HC.out _ (by (repeat (first | exact Below.refl _ _ | assumption | (refine Below.alloc ?_ (by first | omega | (simp; omega) | (simp; done)) _) | (refine Below.setCell ?_ (by first | omega | (simp; omega) | (simp; done)) _) | (refine Below.drew ?_) | (refine belowN ?_ _) | (refine Below.trans ?_ (Below.mono ‹Below _ _ _› (by first | omega | (simp; omega) | (simp; done))))))) _ (Blk.new V _ _)).mono ?_; rintro _ w1 ⟨rfl, hb1⟩; refine Hid.out ?_) | fail)
    have hb1V : Below V.heap.size V w1 := ((Below.refl _ V).alloc (Nat.le_refl _) _).trans (hb1.mono (by simp))
    have g1 := g1.below hb1V (by omega)
    have g2 := g2.below hb1V (by omega)
    have g3 := g3.below hb1V (by omega)
    have hV1 := bl2 hV hb1V
    have d0 := g1.cell 0; have d1 := g1.cell 1; have d2 := g1.cell 2
    simp at d0 d1 d2
    have hz1 := hb1V.size
    clear hb1 hb1V
    refine Lib.hid ?_
    go_wp2_with (first | (go_at_call 53; refine (HS.out _ hV1).mono ?_; rintro _ w2 ⟨rfl, hsh, hb2', hsz⟩; refine Hid.out ?_) | fail)
    obtain ⟨B, hB⟩ : ∃ B, B = w1.heap.size := ⟨_, rfl⟩
    rw [← hB] at hsh hsz ⊢
    have hit := shI_iter x r0 t HX0.out hmod l hreg hlen lA lc B (B + 1) w.heap.size
    have g2 := g2.below hb2' (by omega)
    have g3 := g3.below hb2' (by omega)
    have hV2 := bl2 hV1 hb2'
    have hbB : b2 + 1 + 1 < B := by omega
    have hBz : w2.heap.size = B + 2 := hsz
    have HSH := Lib.hid hsh; have HV2 := Lib.hid hV2; have HIT := Lib.hid hit; have HG2 := Lib.hid g2; have HG3 := Lib.hid g3; have HBZ := Lib.hid hBz
    clear g1 d0 d1 d2 hb2' hsz hsh hV1 hV hB hz1 hz hmod hreg hit g2 g3 hV2 hBz
    refine Lib.hid ?_
    go_wp2_with fail
    have hBz := HBZ.out
    refine wp_rangeBP (lb := #[.pointer (some ⟨B, 0, none⟩), .pointer (some ⟨B + 1, 0, none⟩)]) rfl ent_shI HIT.out [(7, 0)] 8 (fun xs => match xs.getD 1 undef with | .agg cs => cs | _ => #[]) 87
      (fun s k W => (∀ j, j < k → (wtI x.m l j).1 ≠ 0) ∧ Below w.heap.size w W ∧ Blk W (b2 + 1) #[.int .i64 0] 3 ∧ Blk W (b2 + 1 + 1) #[.int .i64 0] 33)
      (fun c W => c = .ret ∧ ∃ i : Nat, exclGo x.m l 0 l.length = i ∧ Below w.heap.size w W ∧ Blk W (b2 + 1) #[.int .i64 (i : Int)] 3 ∧ Blk W (b2 + 1 + 1) #[.int .i64 0] 33)
      (fun z k hz => (StabP.pure _).and ((StabP.low (by omega) _ (Nat.le_refl _)).and ((StabP.blk _ (fun h => by have := hz _ h; omega) _ _ _).and (StabP.blk _ (fun h => by have := hz _ h; omega) _ _ _))))
      (fun z z' k V V' h hb _ => ⟨h.1, bl2 h.2.1 hb, h.2.2.1.below hb h.2.2.1.lt, h.2.2.2.below hb h.2.2.2.lt⟩)
      (fun c => (Stab.pure _).and (Stab.ex fun d => (Stab.pure _).and ((Stab.low (by omega) _ (Nat.le_refl _)).and ((Stab.blk _ _ _ _).and (Stab.blk _ _ _ _)))))
      (fun z W b o' hz h1 h2 hd => hd.putObj _ (by omega) (fun e => by have := hz z.1 (.inl rfl); omega) (fun e => by have := hz z.2.1 (.inr rfl); omega) (by omega) (by omega))
      (fun z W W' h hb => h.below hb) ?hE ?hD0 ?h0 ?hps ?hassign ?hbody ?hdone ?hstop
    case hE => exact fun k xs => Stab.pure (xs = #[.int .i64 (k : Int), .agg #[.int .i64 (wtI x.m l k).1, .int .i64 (wtI x.m l k).2]])
    case hD0 => exact fun W hb => ⟨by have := hb.size; omega, HSH.out.keep (hb.mono (by omega)) (hb.block _ (by omega)) (hb.block _ (by omega))⟩
    case h0 => exact fun z W hz hb => ⟨fun j hj => by omega, bl2 HV2.out hb, HG2.out.below hb (by omega), HG3.out.below hb (by omega)⟩
    case hps => intro k W xs h; unfold EncSh at h; subst h; rfl
    case hassign =>
      intro l0 k xs W K he hK
      unfold EncSh at he; subst he
      rw [round2B] at hK
      rw [fold2]
      simp only [List.setIfInBounds_toArray, List.set_cons_succ, List.set_cons_zero] at hK ⊢
      gi_wp2
      exact hK _ ((Below.refl _ _).alloc (Nat.le_refl _) _) (Blk.new _ _ _)
    case hbody =>
      rintro l0 z k xs b W hz hk ⟨hno, hb, g2, g3⟩ hDD he hbk hl2 hl3
      unfold EncSh at he; subst he
      rw [round2B]
      simp only [List.setIfInBounds_toArray, List.set_cons_succ, List.set_cons_zero]
      have hbk : Blk W b #[.int .i64 (wtI x.m l k).1, .int .i64 (wtI x.m l k).2] 87 := hbk
      obtain ⟨wt, hwt⟩ : ∃ q, q = (wtI x.m l k).1 := ⟨_, rfl⟩
      obtain ⟨sm, hsm⟩ : ∃ q, q = (wtI x.m l k).2 := ⟨_, rfl⟩
      rw [← hwt, ← hsm] at hbk ⊢
      have e0 := hbk.cell 0; have c2 := g2.cell 0; have c3 := g3.cell 0; have f2 := g2.free 0; have f3 := g3.free 0
      simp at e0 c2 c3
      have HNO := Lib.hid hno; have HB := Lib.hid hb; have HG2 := Lib.hid g2; have HG3 := Lib.hid g3; have HD := Lib.hid hDD; have HWT := Lib.hid hwt
      have hl3 := g2.lt; have hl4 := g3.lt
      clear hno hb g2 g3 hDD hwt hsm
      by_cases h9 : wt = 0
      · have hQ : (wt == 0) = true := by simp; exact h9
        have HEG : Hid (exclGo x.m l 0 l.length = (k : Int)) := (by show _ = _; exact exclGo_some (by rw [← HWT.out]; exact h9) _ _ (Nat.zero_le _) (by omega) (fun j _ h => HNO.out j h) : _)
        clear h9
        gi_wp2
        exact ⟨((KeepsOthers.setCell _ _ _).from _).trans ((KeepsOthers.setCell _ _ _).from _), rfl, k, HEG.out, (HB.out.setCell (by show w.heap.size ≤ b2 + 1; omega) _).setCell (by show w.heap.size ≤ b2 + 1 + 1; omega) _,
          (HG2.out.set 0 (.int .i64 (k : Int))).far ⟨b2 + 1 + 1, 0, none⟩ (by show b2 + 1 ≠ b2 + 1 + 1; omega) (.int .i64 0), (HG3.out.far ⟨b2 + 1, 0, none⟩ (by show b2 + 1 + 1 ≠ b2 + 1; omega) (.int .i64 (k : Int))).set 0 (.int .i64 0)⟩
      · have hQ : (wt == 0) = false := by simp; exact h9
        gi_wp2
        exact ⟨KeepsFrom.refl _ _, ⟨fun j hj => by
          rcases Nat.lt_succ_iff_lt_or_eq.1 hj with h | h
          · exact HNO.out j h
          · subst h; rw [← HWT.out]; exact h9, HB.out, HG2.out, HG3.out⟩, HD.out⟩
    case hdone =>
      rintro z D W hz ⟨hno, hb, g2, g3⟩ hD hDW
      have HN : Hid (exclGo x.m l 0 l.length = -1) := (by show _ = _; exact exclGo_none _ _ (fun j _ h => hno j (by omega)) : _)
      have c2 := g2.cell 0; have c3 := g3.cell 0; have f2 := g2.free 0; have f3 := g3.free 0
      simp at c2 c3
      have HB := Lib.hid hb; have HG2 := Lib.hid g2; have HG3 := Lib.hid g3; have HDW := Lib.hid hDW
      have hl3 := g2.lt; have hl4 := g3.lt
      clear hb g2 g3 hDW hno
      go_wp2
      have hK2 := ((KeepsOthers.setCell W ⟨b2 + 1, 0, none⟩ (.int .i64 (-1))).trans (KeepsOthers.setCell _ ⟨b2 + 1 + 1, 0, none⟩ (.int .i64 0))).same _ _ HDW.out rfl
      have m2 := ((HG2.out.set 0 (.int .i64 (-1))).far ⟨b2 + 1 + 1, 0, none⟩ (by show b2 + 1 ≠ b2 + 1 + 1; omega) (.int .i64 0)).putObj (o' := .deferred none) hK2 rfl
      have m3 := ((HG3.out.far ⟨b2 + 1, 0, none⟩ (by show b2 + 1 + 1 ≠ b2 + 1; omega) (.int .i64 (-1))).set 0 (.int .i64 0)).putObj (o' := .deferred none) hK2 rfl
      have x2 := m2.cell 0; have x3 := m3.cell 0
      simp at x2 x3
      refine marks_ret1 (v := .tuple #[.int .i64 (-1), .int .i64 0]) rfl hK2 (by simp [results, Try.results27, go_sem, x2, x3]) ?_
      rw [HEX.out, HN.out]
      exact ⟨rfl, below_putObj ((HB.out.setCell (by show w.heap.size ≤ b2 + 1; omega) _).setCell (by show w.heap.size ≤ b2 + 1 + 1; omega) _) (by omega) hK2 _⟩
    case hstop =>
      rintro D c W ⟨rfl, i, hi, hb, g2, g3⟩ hD hDW
      refine wp_ret ?_
      have m2 := g2.putObj (o' := .deferred none) hDW rfl
      have m3 := g3.putObj (o' := .deferred none) hDW rfl
      have x2 := m2.cell 0; have x3 := m3.cell 0
      simp at x2 x3
      refine marks_ret1 (v := .tuple #[.int .i64 (i : Int), .int .i64 0]) rfl hDW (by simp [results, Try.results27, go_sem, x2, x3]) ?_
      rw [HEX.out, hi]
      exact ⟨rfl, below_putObj hb (by omega) hDW _⟩
  · have HEX : Hid (exclR x.m l = (0, er)) := (by show _ = _; unfold exclR; rw [if_neg (by rw [← HR.out]; exact h0), ← HR.out] : _)
    have hQ : (er != 0) = true := by simp; exact h0
    go_wp2_with (first | (go_at_call 40; refine (HC.out _ (by (repeat (first | exact Below.refl _ _ | assumption | (refine Below.alloc ?_ (by first | omega | (simp; omega) | (simp; done)) _) | (refine Below.setCell ?_ (by first | omega | (simp; omega) | (simp; done)) _) | (refine Below.drew ?_) | (refine belowN ?_ _) | (refine Below.trans ?_ (Below.mono ‹Below _ _ _› (by first | omega | (simp; omega) | (simp; done))))))) _ (Blk.new V _ _)).mono ?_; rintro _ w1 ⟨rfl, hb1⟩; refine Hid.out ?_) | fail)
    have hb1V : Below V.heap.size V w1 := ((Below.refl _ V).alloc (Nat.le_refl _) _).trans (hb1.mono (by simp))
    have g2 := g2.below hb1V (by omega)
    have g3 := g3.below hb1V (by omega)
    have hV1 := bl2 hV hb1V
    have f2 := g2.free 0; have f3 := g3.free 0
    have c2 := g2.cell 0; have c3 := g3.cell 0
    simp at c2 c3
    have hz1 := hb1V.size
    clear hb1 hb1V
    refine Lib.hid ?_
    go_wp2_with fail
    have m2 := (g2.set 0 (.int .i64 0)).far ⟨b2 + 1 + 1, 0, none⟩ (by show b2 + 1 ≠ b2 + 1 + 1; omega) (.int .i64 er)
    have m3 := (g3.far ⟨b2 + 1, 0, none⟩ (by show b2 + 1 + 1 ≠ b2 + 1; omega) (.int .i64 0)).set 0 (.int .i64 er)
    have x2 := m2.cell 0; have x3 := m3.cell 0
    simp at x2 x3
    refine marks_ret0 (v := .tuple #[.int .i64 0, .int .i64 er]) rfl (by simp [results, Try.results27, go_sem, x2, x3]) ?_
    rw [HEX.out]
    exact ⟨rfl, (hV1.setCell (by show w.heap.size ≤ b2 + 1; omega) _).setCell (by show w.heap.size ≤ b2 + 1 + 1; omega) _⟩
end Go.Proofs.Ytiikkcifdhcejaa
namespace Go.Proofs.Ytiikkcifdhcejaa
open Go.RowKit
attribute [local go_sem] Oper.semAt_some

theorem cells_none {W : World} {b j : Nat} {o : Obj} (h : W.heap[b]? = some o) (ho : o.isCells = false) : W.cell? ⟨b, j, none⟩ = none := by
  unfold World.cell?
  rw [h]
  cases o <;> first | rfl | cases ho
theorem Sl.grownP {α : Type} {f : α → List Value} {size : Nat} {W W' : World} {B : Nat} {A : Option Addr} {l : List α} {row : Option Nat} (h : Sl f size W B A l) (hg : W.grownBy W' row) (hB : B ≤ W.heap.size)
    (hr : 0 < l.length → ∀ r, row = some r → (∀ ad, A = some ad → ad.block ≠ r) ∨ ∃ o : Obj, W.heap[r]? = some o ∧ o.isCells = false) : Sl f size W' B A l :=
  ⟨h.1, fun hn => by
    obtain ⟨b, o, e, hb, hc⟩ := h.2 hn
    refine ⟨b, o, e, hb, fun j u hu => ?_⟩
    have h1 := hc j u hu
    rw [hg.cell_far ⟨b, o + j, none⟩ (by show b < _; omega) (fun e' => ?_)]
    · exact h1
    · rcases hr hn b e'.symm with h2 | ⟨ob, h2, h3⟩
      · exact h2 _ e rfl
      · rw [cells_none h2 h3] at h1; cases h1⟩
/-- the lists of a score lie in no block of P -/
def ScAv (P : Nat → Prop) (x : Value) : Prop := ∃ A n c A2 n2 c2, x = .agg #[.slice A n c, .slice A2 n2 c2] ∧ (0 < n → ∀ ad, A = some ad → ¬ P ad.block) ∧ (0 < n2 → ∀ ad, A2 = some ad → ¬ P ad.block)
theorem ScV.grownP {p q len lo : Nat} {x : Value} {W W' : World} {row : Option Nat} {P : Nat → Prop} (h : ScV p q len lo x W) (hb : ScAv P x) (hg : W.grownBy W' row) (hr : ∀ r, row = some r → P r ∨ ∃ o : Obj, W.heap[r]? = some o ∧ o.isCells = false) : ScV p q len lo x W' := by
  obtain ⟨A, c, L, A2, c2, L2, h1, h2, h3, h4, h5, h6, h7, h8⟩ := h
  obtain ⟨A', n', c', A2', n2', c2', e, k1, k2⟩ := hb
  rw [h1] at e
  simp at e
  obtain ⟨⟨rfl, rfl, rfl⟩, ⟨rfl, rfl, rfl⟩⟩ := e
  refine ⟨A, c, L, A2, c2, L2, h1, h2, h3, h4, h5, (h6.grownP hg (Nat.le_refl _) fun hn r e => ?_).more hg.size, (h7.grownP hg (Nat.le_refl _) fun hn r e => ?_).more hg.size, h8⟩
  · exact (hr r e).imp (fun h ad e2 e3 => k1 hn ad e2 (e3 ▸ h)) id
  · exact (hr r e).imp (fun h ad e2 e3 => k2 hn ad e2 (e3 ▸ h)) id
/-- a score lies in no block that comes later, nor in one of P' if not of P -/
theorem ScV.avoid {p q len lo : Nat} {x : Value} {W : World} {P P' : Nat → Prop} (h : ScV p q len lo x W) (hb : ScAv P x) (hp : ∀ r, P' r → P r ∨ W.heap.size ≤ r) : ScAv P' x := by
  obtain ⟨A, c, L, A2, c2, L2, h1, h2, h3, h4, h5, h6, h7, h8⟩ := h
  obtain ⟨A', n', c', A2', n2', c2', e, k1, k2⟩ := hb
  rw [h1] at e
  simp at e
  obtain ⟨⟨rfl, rfl, rfl⟩, ⟨rfl, rfl, rfl⟩⟩ := e
  refine ⟨A, _, c, A2, _, c2, h1, fun hn ad e hq => ?_, fun hn ad e hq => ?_⟩
  · obtain ⟨b, o, e2, hb, _⟩ := h6.2 hn
    rw [e] at e2; cases e2
    rcases hp _ hq with h9 | h9
    · exact k1 hn _ e h9
    · simp at h9; omega
  · obtain ⟨b, o, e2, hb, _⟩ := h7.2 hn
    rw [e] at e2; cases e2
    rcases hp _ hq with h9 | h9
    · exact k2 hn _ e h9
    · simp at h9; omega
/-- a score whose lists lie from lo on -/
theorem ScV.high {p q len lo : Nat} {x : Value} {W : World} {P : Nat → Prop} (h : ScV p q len lo x W) (hp : ∀ r, P r → r < lo) : ScAv P x := by
  obtain ⟨A, c, L, A2, c2, L2, h1, h2, h3, h4, h5, h6, h7, h8, h9⟩ := h
  exact ⟨A, _, c, A2, _, c2, h1, fun _ ad e hq => by have := h8 ad e; have := hp _ hq; omega, fun _ ad e hq => by have := h9 ad e; have := hp _ hq; omega⟩
/-- the lists of a score that are not empty lie in the world -/
theorem ScV.inW {p q len lo : Nat} {x : Value} {W : World} (h : ScV p q len lo x W) : ∃ A n c A2 n2 c2, x = .agg #[.slice A n c, .slice A2 n2 c2] := by
  obtain ⟨A, c, L, A2, c2, L2, h1, _⟩ := h
  exact ⟨_, _, _, _, _, _, h1⟩
theorem ScV.setFar {p q len lo : Nat} {x : Value} {W : World} (h : ScV p q len lo x W) {a : Addr} (ha : a.block < lo) (v : Value) : ScV p q len lo x (W.setCell a v) := by
  obtain ⟨A, c, L, A2, c2, L2, h1, h2, h3, h4, h5, h6, h7, h8, h9⟩ := h
  exact ⟨A, c, L, A2, c2, L2, h1, h2, h3, h4, h5, (h6.setFar h8 ha v).more (by simp), (h7.setFar h9 ha v).more (by simp), h8, h9⟩
theorem ShD.setCell {x : Md} {r0 : LL} {l : List Int} {lA : Option Addr} {lc b1 b2 z : Nat} {s : Nat × Nat × HSt} {W : World} (h : ShD x r0 l lA lc b1 b2 z s W) (a : Addr) (v : Value) (hz : z ≤ a.block) (h1 : a.block ≠ s.1) (h2 : a.block ≠ s.2.1) (h3 : a.block ≠ b1) (h4 : a.block ≠ b2) : ShD x r0 l lA lc b1 b2 z s (W.setCell a v) := by
  have hp : ∀ k, k ≠ a.block → (W.setCell a v).heap[k]? = W.heap[k]? := fun k hk => Below.heap_setCell W a v k hk
  refine ⟨h.1.same fun k _ hk => hp k ?_, h.2.1.keep ((Below.refl z W).setCell hz v) (hp _ (Ne.symm h3)) (hp _ (Ne.symm h4)), by simpa using h.2.2⟩
  rcases hk with rfl | rfl
  · exact Ne.symm h1
  · exact Ne.symm h2
/-- one cast more -/
theorem and_wt {m : HMd} {l : List Int} (ok : ModOk m) (hl : regB m.outs l) (hlen : l.length ≤ 400) {k : Nat} (hk : k < l.length) {u v : Value} {lo : Nat} {W : World} (hs : ScV (ovN m l k) (unN m l k) (k + 1) lo (.agg #[u, v]) W) :
    Calls Try.prog 54 #[.agg #[u, v], .agg #[.int .i64 (wtI m l k).1, .int .i64 (wtI m l k).2]] W (RetS (ovN m l (k + 1)) (unN m l (k + 1)) (k + 1 + 1) W) := by
  have hw := wtI_bd ok hl hk
  have := scAnd_any (ovN m l k) (unN m l k) (k + 1) (.agg #[u, v]) (wtI m l k).1.toNat (wtI m l k).2.toNat W (by omega) (by omega) (by omega) lo hs
  rw [Int.toNat_of_nonneg hw.1, Int.toNat_of_nonneg (by omega)] at this
  exact this
theorem round2C (T : Array Value) (p q s : Tmp) (b : Nat) (x y : Value) : roundActB T #[p, q] [] s b #[x, y] = { tmps := ((T.setIfInBounds p x).setIfInBounds q y).setIfInBounds s (.pointer (some ⟨b, 0, none⟩)), defers := [] } := by simp [roundActB]
theorem RetS.two {p q len : Nat} {w : World} {e : Ending} {w' : World} (h : RetS p q len w e w') : ∃ A n c A2 n2 c2, e = .returned (.agg #[.slice A n c, .slice A2 n2 c2]) ∧ ScV p q len w.heap.size (.agg #[.slice A n c, .slice A2 n2 c2]) w' ∧ Below w.heap.size w w' := by
  obtain ⟨x, rfl, hx, hb⟩ := h
  obtain ⟨A, n, c, A2, n2, c2, rfl⟩ := hx.inW
  exact ⟨A, n, c, A2, n2, c2, rfl, hx, hb⟩
set_option maxRecDepth 100000 in
set_option maxHeartbeats 4000000 in
theorem scOf_any (x : Md) (l : List Int) (lA : Option Addr) (lc : Nat) (w : World) (hx : x.reads w w.heap.size) (hl : Sl intCell 1 w w.heap.size lA l) (hmod : ModOk x.m) (hreg : regB x.m.outs l) (hlen : l.length ≤ 400) :
    Calls Try.prog 41 #[.agg #[.int .i64 x.kind, .slice x.a x.rows.length x.c, .int .i64 x.after], .slice lA l.length lc] w (RetS (ovN x.m l l.length) (unN x.m l l.length) (l.length + 1) w) := by
  obtain ⟨r0, t, hx0⟩ : ∃ r0 t, x.rows = r0 :: t := by
    obtain ⟨r, t, e⟩ := hmod.rows0
    cases hq : x.rows with
    | nil => simp [Md.m, hq] at e
    | cons a b => exact ⟨a, b, rfl⟩
  have HX0 := Lib.hid hx0
  have HS := Lib.hid (fun W (hW : Below w.heap.size w W) => shares_any x l lA lc w.heap.size W hW.size (hx.below hW) (hl.below hW))
  have HM := Lib.hid hmod; have HREG := Lib.hid hreg; have HLEN := Lib.hid hlen
  clear hx hl hx0 hmod hreg
  refine calls_marks Try.func41 rfl ?_
  simp only [Try.ntmps41, List.size_toArray, List.length_cons, List.length_nil, Nat.reduceAdd, Nat.reduceSub, Array.replicate_succ, Array.replicate_zero, List.push_toArray, List.append_toArray, List.nil_append, List.cons_append]
  go_wp2_with (first | (go_at_call 52; refine (scWhole_any _).mono ?_; rintro _ w1 h1; obtain ⟨A, n, c, A2, n2, c2, rfl, hs1, hb1⟩ := RetS.two h1; refine Hid.out ?_) | fail)
  have hb1' : Below w.heap.size w w1 := (((Below.refl _ w).alloc (Nat.le_refl _) _).alloc (by simp) _).trans (hb1.mono (by simp; omega))
  have g1 : Blk w1 w.heap.size #[.int .i64 x.kind, .slice x.a x.rows.length x.c, .int .i64 x.after] 25 := ((Blk.new w _ _).alloc _).below hb1 (by simp; omega)
  have g2 : Blk w1 (w.heap.size + 1) #[.slice none 0 0, .slice none 0 0] 79 := (Blk.at_ (by simp)).below hb1 (by simp)
  have hs1 := hs1.mono (lo' := w.heap.size + 2) (by simp)
  have hz1 : w.heap.size + 2 ≤ w1.heap.size := by have := hb1.size; simp at this; omega
  obtain ⟨b2, hb2⟩ : ∃ b, b = w.heap.size := ⟨_, rfl⟩
  rw [← hb2] at g1 g2 hz1 hs1 ⊢
  have hwb : w.heap.size ≤ b2 := by omega
  have d0 := g1.cell 0; have d1 := g1.cell 1; have d2 := g1.cell 2
  simp at d0 d1 d2
  have hs1 := Lib.hid hs1; have hb1' := Lib.hid hb1'; have g2 := Lib.hid g2
  clear hb1 h1 hb2
  refine Lib.hid ?_
  go_upto_region 2 with fail
  obtain ⟨b5, hb5⟩ : ∃ b, b = w1.heap.size := ⟨_, rfl⟩
  have h25 : b2 + 1 < b5 := by omega
  rw [← hb5]
  refine gen_w (fun W => b5 < W.heap.size ∧ Below w.heap.size w W ∧ Blk W b2 #[.int .i64 x.kind, .slice x.a x.rows.length x.c, .int .i64 x.after] 25 ∧ Blk W (b2 + 1) #[.slice none 0 0, .slice none 0 0] 79 ∧ Blk W b5 #[.slice A n c, .slice A2 n2 c2] 79 ∧ ScV 1 1 1 (b2 + 2) (.agg #[.slice A n c, .slice A2 n2 c2]) W) ⟨by simp [hb5], hb1'.out.alloc (by omega) _, g1.alloc _, g2.out.alloc _, Blk.at_ hb5, ScV.stays _ _ _ hs1.out ((Below.refl _ _).alloc (Nat.le_refl _) _)⟩ ?_
  clear hs1 hb1' g1 g2 d0 d1 d2 hb5 hz1
  rintro V ⟨hVz, hV, g1, g2, g5, hs⟩
  have d0 := g1.cell 0; have d1 := g1.cell 1; have d2 := g1.cell 2
  simp at d0 d1 d2
  go_wp2_with (first | (go_at_call 53; refine (HS.out _ hV).mono ?_; rintro _ w2 ⟨rfl, hsh, hb2', hsz⟩; refine Hid.out ?_) | fail)
  obtain ⟨B, hB⟩ : ∃ B, B = V.heap.size := ⟨_, rfl⟩
  rw [← hB] at hsh hsz ⊢
  have hit := shI_iter x r0 t HX0.out HM.out l HREG.out (by omega) lA lc B (B + 1) w.heap.size
  have hbB : b5 < B := by omega
  have g2 := g2.below hb2' (by omega)
  have g5 := g5.below hb2' (by omega)
  have hs := ScV.stays _ _ _ hs hb2'
  have hV2 := bl2 hV hb2'
  have HSH := Lib.hid hsh; have HV2 := Lib.hid hV2; have HIT := Lib.hid hit; have HG2 := Lib.hid g2; have HG5 := Lib.hid g5; have HBZ := Lib.hid hsz; have HSC := Lib.hid hs
  clear g1 d0 d1 d2 hb2' hsz hsh hV hB hit g2 g5 hV2 hs hVz
  refine Lib.hid ?_
  go_wp2_with fail
  have hBz := HBZ.out
  refine wp_rangeBP (lb := #[.pointer (some ⟨B, 0, none⟩), .pointer (some ⟨B + 1, 0, none⟩)]) rfl ent_shI HIT.out [] 7 (fun xs => match xs.getD 1 undef with | .agg cs => cs | _ => #[]) 87
    (fun s k W => Below w.heap.size w W ∧ Blk W (b2 + 1) #[.slice none 0 0, .slice none 0 0] 79 ∧ ∃ A n c A2 n2 c2, Blk W b5 #[.slice A n c, .slice A2 n2 c2] 79 ∧ ScV (ovN x.m l k) (unN x.m l k) (k + 1) (b2 + 2) (.agg #[.slice A n c, .slice A2 n2 c2]) W ∧ ScAv (fun r => r = s.1 ∨ r = s.2.1) (.agg #[.slice A n c, .slice A2 n2 c2]))
    (fun c W => False) ?hI ?hIm ?hIx ?hDs (fun z W W' h hb => h.below hb) ?hE ?hD0 ?h0 ?hps ?hassign ?hbody ?hdone ?hstop
  case hI =>
    rintro z k hz W W' row ⟨h1, h2, A, n, c, A2, n2, c2, h3, h4, h5⟩ hg hr
    have hne : ∀ b, b < w2.heap.size → some b ≠ row ∨ ∃ o : Obj, W.heap[b]? = some o ∧ o.isCells = false := fun b hb => by
      by_cases e : some b = row
      · rcases (hr b e.symm).2 with h9 | h9
        · have := hz b h9; omega
        · exact .inr h9
      · exact .inl e
    have hkeep : ∀ b cs ty, b < w2.heap.size → Blk W b cs ty → Blk W' b cs ty := fun b cs ty hb h => by
      rcases hne b hb with h9 | ⟨o, h9, h8⟩
      · exact (hg.block b h.lt h9).trans h
      · unfold Blk at h; rw [h] at h9; cases h9; cases h8
    exact ⟨h1.grown hg (Nat.le_trans (Nat.le_refl _) h1.size) (fun g e => Nat.le_trans (by omega) (hr g e).1), hkeep _ _ _ (by omega) h2, A, n, c, A2, n2, c2, hkeep _ _ _ (by omega) h3, h4.grownP h5 hg (fun r e => (hr r e).2), h5⟩
  case hIm =>
    rintro z z' k V V' ⟨h1, h2, A, n, c, A2, n2, c2, h3, h4, h5⟩ hb hm
    exact ⟨bl2 h1 hb, h2.below hb h2.lt, A, n, c, A2, n2, c2, h3.below hb h3.lt, ScV.stays _ _ _ h4 hb, h4.avoid h5 hm⟩
  case hIx => exact fun c => Stab.pure False
  case hDs => exact fun z W b o' hz h1 h2 hd => hd.putObj _ (by omega) (fun e => by have := hz z.1 (.inl rfl); omega) (fun e => by have := hz z.2.1 (.inr rfl); omega) (by omega) (by omega)
  case hE => exact fun k xs => Stab.pure (xs = #[.int .i64 (k : Int), .agg #[.int .i64 (wtI x.m l k).1, .int .i64 (wtI x.m l k).2]])
  case hD0 => exact fun W hb => ⟨by have := hb.size; omega, HSH.out.keep (hb.mono (by omega)) (hb.block _ (by omega)) (hb.block _ (by omega))⟩
  case h0 => exact fun z W hz hb => ⟨bl2 HV2.out hb, HG2.out.below hb (by omega), A, n, c, A2, n2, c2, HG5.out.below hb (by omega), ScV.stays _ _ _ HSC.out hb, HSC.out.avoid (P := fun r => False) (by exact ⟨_, _, _, _, _, _, rfl, fun _ _ _ h => h, fun _ _ _ h => h⟩) (fun r hr => .inr (by have := hz r hr; omega))⟩
  case hps => intro k W xs h; unfold EncSh at h; subst h; rfl
  case hassign =>
    intro l0 k xs W K he hK
    unfold EncSh at he; subst he
    rw [round2C] at hK
    rw [fold2]
    simp only [List.setIfInBounds_toArray, List.set_cons_succ, List.set_cons_zero] at hK ⊢
    gi_wp2
    exact hK _ ((Below.refl _ _).alloc (Nat.le_refl _) _) (Blk.new _ _ _)
  case hbody =>
    rintro l0 z k xs b W hz hk ⟨hb, g2, A, n, c, A2, n2, c2, g5, hsc, hav⟩ hDD he hbk hl2 hl3
    unfold EncSh at he; subst he
    rw [round2C]
    simp only [List.setIfInBounds_toArray, List.set_cons_succ, List.set_cons_zero]
    have hbk : Blk W b #[.int .i64 (wtI x.m l k).1, .int .i64 (wtI x.m l k).2] 87 := hbk
    have HA := Lib.hid (and_wt HM.out HREG.out hlen hk hsc)
    obtain ⟨wt, hwt⟩ : ∃ q, q = (wtI x.m l k).1 := ⟨_, rfl⟩
    obtain ⟨sm, hsm⟩ : ∃ q, q = (wtI x.m l k).2 := ⟨_, rfl⟩
    rw [← hwt, ← hsm] at hbk HA ⊢
    have e0 := hbk.cell 0; have e1 := hbk.cell 1; have c5 := g5.cell 0; have c6 := g5.cell 1
    simp at e0 e1 c5 c6
    have HB := Lib.hid hb; have HG2 := Lib.hid g2; have HG5 := Lib.hid g5; have HD := Lib.hid hDD
    have hl4 := g5.lt; have hl6 := g2.lt
    have hzh := hz z.1 (.inl rfl); have hzl := hz z.2.1 (.inr rfl)
    have hzz : z.1 < W.heap.size ∧ z.2.1 < W.heap.size := ⟨hDD.1.lt, hDD.2.2⟩
    clear hb g2 g5 hDD hwt hsm hsc hav hbk
    gi_wp2
    refine ⟨trivial, (CallsIn.inRound l0 (callsIn_wide.2 HA.out)).mono ?_⟩
    rintro e w3 h3
    obtain ⟨A', n', c', A2', n2', c2', rfl, hs3, hb3⟩ := RetS.two h3
    have g5 := HG5.out.below hb3 hl4
    have f5 := g5.free 0; have f6 := g5.free 1; have c5 := g5.cell 0; have c6 := g5.cell 1
    simp at c5 c6
    have HG5 := Lib.hid g5; have HB3 := Lib.hid hb3; have HS3 := Lib.hid hs3
    clear h3 hs3 hb3 g5 HA
    gi_wp2
    have m5 := (HG5.out.set 0 (.slice A' n' c')).set 1 (.slice A2' n2' c2')
    simp at m5
    refine ⟨(keepsFrom_below HB3.out).trans (((KeepsOthers.setCell _ _ _).from _).trans ((KeepsOthers.setCell _ _ _).from _)), ⟨((bl2 HB.out HB3.out).setCell (by show w.heap.size ≤ b5; omega) _).setCell (by show w.heap.size ≤ b5; omega) _, ((HG2.out.below HB3.out hl6).far ⟨b5, 0, none⟩ (by show b2 + 1 ≠ b5; omega) _).far ⟨b5, 1, none⟩ (by show b2 + 1 ≠ b5; omega) _, A', n', c', A2', n2', c2', m5, ?_, HS3.out.high (fun r hr => by rcases hr with rfl | rfl; exact hzz.1; exact hzz.2)⟩, ?_⟩
    · exact ((HS3.out.setFar (a := ⟨b5, 0, none⟩) hl4 (.slice A' n' c')).setFar (a := ⟨b5, 1, none⟩) hl4 (.slice A2' n2' c2')).mono (by omega)
    · exact ((HD.out.below HB3.out).setCell ⟨b5, 0, none⟩ (.slice A' n' c') (by show w.heap.size ≤ b5; omega) (by show b5 ≠ _; omega) (by show b5 ≠ _; omega) (by show b5 ≠ _; omega) (by show b5 ≠ _; omega)).setCell ⟨b5, 1, none⟩ (.slice A2' n2' c2') (by show w.heap.size ≤ b5; omega) (by show b5 ≠ _; omega) (by show b5 ≠ _; omega) (by show b5 ≠ _; omega) (by show b5 ≠ _; omega)
  case hdone =>
    rintro z D W hz ⟨hb, g2, A, n, c, A2, n2, c2, g5, hsc, hav⟩ hD hDW
    have e2 := g2.cell 0; have e3 := g2.cell 1; have f2 := g2.free 0; have f3 := g2.free 1; have c5 := g5.cell 0; have c6 := g5.cell 1
    simp at e2 e3 c5 c6
    have HB := Lib.hid hb; have HG2 := Lib.hid g2; have HDW := Lib.hid hDW; have HSC := Lib.hid hsc
    have hl3 := g2.lt
    clear hb g2 g5 hDW hsc hav
    go_wp2
    have hK2 := ((KeepsOthers.setCell W ⟨b2 + 1, 0, none⟩ (.slice A n c)).trans (KeepsOthers.setCell _ ⟨b2 + 1, 1, none⟩ (.slice A2 n2 c2))).same _ _ HDW.out rfl
    have m2 := ((HG2.out.set 0 (.slice A n c)).set 1 (.slice A2 n2 c2)).putObj (o' := .deferred none) hK2 rfl
    simp at m2
    have x2 := m2.cell 0; have x3 := m2.cell 1
    simp at x2 x3
    refine marks_ret1 (v := .agg #[.slice A n c, .slice A2 n2 c2]) rfl hK2 (by simp [results, Try.results41, go_sem, x2, x3]) ⟨_, rfl, ?_, below_putObj ((HB.out.setCell (by show w.heap.size ≤ b2 + 1; omega) _).setCell (by show w.heap.size ≤ b2 + 1; omega) _) (by omega) hK2 _⟩
    exact (((HSC.out.setFar (a := ⟨b2 + 1, 0, none⟩) (by show b2 + 1 < b2 + 2; omega) (.slice A n c)).setFar (a := ⟨b2 + 1, 1, none⟩) (by show b2 + 1 < b2 + 2; omega) (.slice A2 n2 c2)).mono (by omega)).grownP (P := fun _ => False) ⟨_, _, _, _, _, _, rfl, fun _ _ _ h => h, fun _ _ _ h => h⟩ (grownBy_putObj' _ D (.deferred none)) (fun r e => by cases e; exact .inr ⟨_, hK2, rfl⟩)
  case hstop => rintro D c W h; exact h.elim
end Go.Proofs.Ytiikkcifdhcejaa

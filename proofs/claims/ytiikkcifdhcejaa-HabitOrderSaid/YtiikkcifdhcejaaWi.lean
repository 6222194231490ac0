/- habit: casts. -/
import Derived.Test.YtiikkcifdhcejaaZ12Wg
import Derived.Lib.SliceRun
import Derived.Lib.MinMax
import Derived.OwnWalk
import Derived.Laws.AppendOwn
namespace Go.Proofs.Ytiikkcifdhcejaa
open Go.RowKit

/-- blocks below B stay, but for those of P -/
structure TurnB (P : Nat → Prop) (B : Nat) (w w' : World) : Prop where
  os : w'.os = w.os
  tape : w'.tape = w.tape
  output : w'.output = w.output
  size : w.heap.size ≤ w'.heap.size
  block : ∀ k, k < B → ¬ P k → w'.heap[k]? = w.heap[k]?
theorem Below.turn {P : Nat → Prop} {B : Nat} {w w' : World} (h : Below B w w') : TurnB P B w w' := ⟨h.os, h.tape, h.output, h.size, fun k hk _ => h.block k hk⟩
theorem TurnB.trans {P : Nat → Prop} {B : Nat} {w w' w'' : World} (h : TurnB P B w w') (h' : TurnB P B w' w'') : TurnB P B w w'' := ⟨h'.os.trans h.os, h'.tape.trans h.tape, h'.output.trans h.output, Nat.le_trans h.size h'.size, fun k hk hp => (h'.block k hk hp).trans (h.block k hk hp)⟩
theorem TurnB.below {P : Nat → Prop} {B : Nat} {w w' : World} (h : TurnB P B w w') (hp : ∀ k, k < B → ¬ P k) : Below B w w' := ⟨h.os, h.tape, h.output, h.size, fun k hk => h.block k hk (hp k hk)⟩
theorem TurnB.setCell {P : Nat → Prop} {B : Nat} {w w' : World} (h : TurnB P B w w') {p : Addr} (hp : P p.block) (v : Value) : TurnB P B w (w'.setCell p v) := by
  have t := (Below.refl 0 w').setCell (p := p) (Nat.zero_le _) v
  exact h.trans ⟨t.os, t.tape, t.output, t.size, fun k _ hk => Below.heap_setCell w' p v k (fun e => hk (e ▸ hp))⟩
theorem TurnB.setAny {P : Nat → Prop} {B : Nat} {w w' : World} (h : TurnB P B w w') {p : Addr} (hp : P p.block ∨ B ≤ p.block) (v : Value) : TurnB P B w (w'.setCell p v) := by
  rcases hp with hp | hp
  · exact h.setCell hp v
  · exact h.trans (Below.turn ((Below.refl B w').setCell hp v))
theorem turn_one {P : Nat → Prop} {V V' : World} (ht : TurnB P V.heap.size V V') (p : Nat) : ∃ V1, V.grownBy V1 (some p) ∧ V1.heap.size = V.heap.size ∧ TurnB (fun r => P r ∧ r ≠ p) V1.heap.size V1 V' := by
  by_cases hp : p < V.heap.size
  · obtain ⟨o, ho⟩ : ∃ o, V'.heap[p]? = some o := ⟨_, Array.getElem?_eq_getElem (Nat.lt_of_lt_of_le hp ht.size)⟩
    have hz : (V.putObj p o).heap.size = V.heap.size := by simp [World.putObj]
    refine ⟨V.putObj p o, ⟨rfl, rfl, rfl, by rw [hz]; exact Nat.le_refl _, fun i hi hne => World.putObj_heap_other (fun e => hne (by rw [e]))⟩, hz, ht.os, ht.tape, ht.output, by rw [hz]; exact ht.size, fun k hk hn => ?_⟩
    by_cases e : k = p
    · subst e; rw [World.putObj_heap_same hp, ho]
    · rw [World.putObj_heap_other e]
      exact ht.block k (by rw [← hz]; exact hk) (fun h => hn ⟨h, e⟩)
  · exact ⟨V, World.grownBy.but ⟨rfl, rfl, rfl, Nat.le_refl _, fun _ _ _ => rfl⟩ _, rfl, ht.os, ht.tape, ht.output, ht.size, fun k hk hn => ht.block k hk (fun h => hn ⟨h, by omega⟩)⟩
theorem turn_J {S : Type} {blk : S → Nat → Prop} {J : S → Nat → World → Prop} {B : Nat}
    (ha : ∀ s s' k V V', J s k V → Below V.heap.size V V' → (∀ r, blk s' r → blk s r ∨ V.heap.size ≤ r) → J s' k V')
    (hb : ∀ s k V V' r, B ≤ r → blk s r → J s k V → V.grownBy V' (some r) → J s k V')
    {s s' : S} {p q k : Nat} (hp : blk s p) (hq : blk s q) (hpB : B ≤ p) (hqB : B ≤ q) {V V' : World} (h : J s k V) (ht : TurnB (fun r => r = p ∨ r = q) V.heap.size V V')
    (hs : ∀ r, blk s' r → blk s r ∨ V.heap.size ≤ r) : J s' k V' := by
  obtain ⟨V1, g1, z1, t1⟩ := turn_one ht p
  obtain ⟨V2, g2, z2, t2⟩ := turn_one t1 q
  have h2 := hb s k V1 V2 q hqB hq (hb s k V V1 p hpB hp h g1) g2
  refine ha s s' k V2 V' h2 (t2.below fun r _ h9 => ?_) (by rw [z2, z1]; exact hs)
  rcases h9 with ⟨⟨h9 | h9, h8⟩, h7⟩
  · exact h8 h9
  · exact h7 h9
set_option maxRecDepth 100000 in
set_option maxHeartbeats 4000000 in
theorem castSt_any (A : Option Addr) (c : Nat) (l : List Int) (tot : Int) (h : Nat) (x : Nat) (w : World) (hx : x < l.length) (hh : Blk w h #[.slice A l.length c, .int .i64 tot] 123) (hr : Sl intCell 1 w w.heap.size A l) :
    Calls Try.prog 127 #[.pointer (some ⟨h, 0, none⟩), .int .i64 (x : Int)] w fun e w' => e = .returned (.agg #[.int .i64 (l.getD x 0), .int .i64 tot]) ∧ Below w.heap.size w w' := by
  obtain ⟨b, o, rfl, hb, hc⟩ := hr.int_at hx
  have e1 : l.getD x 0 = l[x] := by simp [hx]
  rw [e1]
  obtain ⟨y, hy⟩ : ∃ y, y = l[x] := ⟨_, rfl⟩
  rw [← hy] at hc ⊢
  have z0 := hh.cell 0; have z1 := hh.cell 1
  simp at z0 z1
  have hl := hh.lt
  have x0 : (0 : Int) ≤ (x : Int) := by omega
  have x1 : (x : Int) < (l.length : Int) := by omega
  clear hy e1 hr hh
  go_enter Try.func127, Try.ntmps127
  go_wp2
  go_region
  all_goals (
    go_wp2
    refine gen_w (fun W => Blk W w.heap.size #[.int .i64 y, .int .i64 tot] 87 ∧ Below w.heap.size w W) ⟨Blk.new w _ _, by (repeat (first | exact Below.refl _ _ | assumption | (refine Below.alloc ?_ (by first | omega | (simp; omega) | (simp; done)) _) | (refine Below.setCell ?_ (by first | omega | (simp; omega) | (simp; done)) _) | (refine Below.drew ?_) | (refine belowN ?_ _) | (refine Below.trans ?_ (Below.mono ‹Below _ _ _› (by first | omega | (simp; omega) | (simp; done))))))⟩ ?_
    rintro W ⟨gW, hW⟩
    have q0 := gW.cell 0; have q1 := gW.cell 1
    simp at q0 q1
    exact bodyPost_ret (v := .agg #[.int .i64 y, .int .i64 tot]) (by simp [results, Try.results127, go_sem, q0, q1]) rfl ⟨rfl, hW⟩)
set_option maxRecDepth 100000 in
set_option maxHeartbeats 4000000 in
theorem castHab_any (lo : Nat) (A : Option Addr) (c : Nat) (rows : List LL) (nx : Nat) (h : Nat) (x : Nat) (w : World) (hlo : lo ≤ h) (hnx : nx < rows.length) (hx : x < rows[nx].l.length) (hx9 : x ≤ 1000000) (hh : Blk w h #[.slice A rows.length c, .int .i64 (nx : Int)] 126) (hr : Lists w lo A rows)
    (hl : rows[nx].l.length ≤ 1000000) (hn : ∀ y ∈ rows[nx].l, 0 ≤ y) (hs : totI rows[nx].l ≤ 4000000000000000000) :
    Calls Try.prog 124 #[.pointer (some ⟨h, 0, none⟩), .int .i64 (x : Int)] w fun e w' => e = .returned (.agg #[.int .i64 (rows[nx].l.getD x 0), .int .i64 (totI rows[nx].l)]) ∧ Blk w' h #[.slice A rows.length c, .int .i64 ((x : Int) + 1)] 126 ∧ TurnB (fun r => r = h) w.heap.size w w' := by
  obtain ⟨b, o, rfl, hb, hc, hsl⟩ := hr.at_ hnx
  obtain ⟨r0, hr0⟩ : ∃ r0, r0 = rows[nx] := ⟨_, rfl⟩
  rw [← hr0] at hc hsl hx hl hn hs
  simp only [← hr0]
  obtain ⟨N, hN⟩ : ∃ N, N = rows.length := ⟨_, rfl⟩
  rw [← hN] at hnx hh ⊢
  clear hr hr0 hN
  obtain ⟨b2, o2, ha2, hb2, hc2⟩ := hsl.int_at hx
  have e1 : r0.l.getD x 0 = r0.l[x] := by simp [hx]
  rw [e1]
  obtain ⟨y, hy⟩ : ∃ y, y = r0.l[x] := ⟨_, rfl⟩
  rw [← hy] at hc2 ⊢
  have HT := Lib.hid (fun W (hW : Below lo w W) (hz : lo ≤ W.heap.size) => mtotal_any r0.a r0.c r0.l W hl hn (by rw [← totI_sumL]; exact hs) ((hsl.below hW).more hz))
  rw [← totI_sumL] at HT
  obtain ⟨tot, htot⟩ : ∃ t, t = totI r0.l := ⟨_, rfl⟩
  rw [← htot] at HT ⊢
  have HAA := Lib.hid ha2
  have z0 := hh.cell 0; have z1 := hh.cell 1
  simp at z0 z1
  have f1 := hh.free 1
  have hhl := hh.lt
  have n0 : (0 : Int) ≤ (nx : Int) := by omega
  have n1 : (nx : Int) < (N : Int) := by omega
  have bl : b < w.heap.size := by omega
  clear hsl hn hs hy e1 htot ha2
  go_enter Try.func124, Try.ntmps124
  go_wp2
  go_quiet (fail)
  go_wp2
  refine gen_w (fun W => Blk W h #[.slice (some ⟨b, o, none⟩) N c, .int .i64 ((x : Int) + 1)] 126 ∧ Blk W w.heap.size #[.int .i64 0, .int .i64 0] 87 ∧ TurnB (fun r => r = h) w.heap.size w W ∧ Below lo w W) ⟨?_, ?_, ?_, ?_⟩ ?_
  · have := (blk_drewN (hh.alloc (.cells #[.int .i64 0, .int .i64 0] 87)) nq).set 1 (.int .i64 ((x : Int) + 1)); simp at this; exact this
  · exact (blk_drewN (Blk.new w _ _) _).far _ (by show w.heap.size ≠ h; omega) _
  · refine TurnB.setCell (P := fun r => r = h) (Below.turn ?_) rfl _
    (repeat (first | exact Below.refl _ _ | assumption | (refine Below.alloc ?_ (by first | omega | (simp; omega) | (simp; done)) _) | (refine Below.setCell ?_ (by first | omega | (simp; omega) | (simp; done)) _) | (refine Below.drew ?_) | (refine belowN ?_ _) | (refine Below.trans ?_ (Below.mono ‹Below _ _ _› (by first | omega | (simp; omega) | (simp; done))))))
  · refine Below.setCell ?_ hlo _
    (repeat (first | exact Below.refl _ _ | assumption | (refine Below.alloc ?_ (by first | omega | (simp; omega) | (simp; done)) _) | (refine Below.setCell ?_ (by first | omega | (simp; omega) | (simp; done)) _) | (refine Below.drew ?_) | (refine belowN ?_ _) | (refine Below.trans ?_ (Below.mono ‹Below _ _ _› (by first | omega | (simp; omega) | (simp; done))))))
  rintro V ⟨gh, g0, hT9, hL⟩
  have hlt := g0.lt
  have hlz : lo ≤ V.heap.size := by omega
  have hS : ∀ W, Below V.heap.size V W → W.cell? ⟨b2, o2 + x, none⟩ = some (.int .i64 y) := fun W hW => ((bcell (hL.trans (hW.mono hlz))).1 b2 _ hb2).trans hc2
  rw [HAA.out] at HT ⊢
  have q0 : (0 : Int) ≤ (x : Int) := by omega
  have q1 : (x : Int) < (r0.l.length : Int) := by omega
  refine' wp_region_plan 7 [6, 5, 4, 3, 2, 1, 0] [.eff, .eff, .eff, .eff, .eff, .eff, .eff, .last] [Det _, Det _, Det _, Det _, Det _, Det (.int .i64 tot), Det _, noF] (by rfl) [(6, 27)] [(6, 27), (5, 26), (4, 25), (3, 24), (2, 23), (1, 22), (0, 21)] (by kernel_rfl) (by kernel_rfl) (by kernel_rfl) (by kernel_rfl) (by kernel_rfl) (by kernel_rfl) (by kernel_rfl) (by kernel_rfl) (by kernel_rfl) rfl ?hp ?hend ?hst
  case hp =>
    refine And.intro ⟨[], by kernel_rfl, fun xs W hW hf K hK => opV_free rfl ?_⟩ ?_
    focus (have hs := hS W hW; (try simp only [factsL] at hf); (try simp only [putL]); (try simp only [hf]); go_simp; refine hK.out _ _ (Below.refl _ _) ?_; unfold Det; rfl)
    refine And.intro ⟨[], by kernel_rfl, fun xs W hW hf K hK => opV_free rfl ?_⟩ ?_
    focus (have hs := hS W hW; (try simp only [factsL] at hf); (try simp only [putL]); (try simp only [hf]); go_simp; refine hK.out _ _ (Below.refl _ _) ?_; unfold Det; rfl)
    refine And.intro ⟨[(1, 22), (0, 21)], by kernel_rfl, fun xs W hW hf K hK => opV_free rfl ?_⟩ ?_
    focus (have hs := hS W hW; (try simp only [factsL, pickF, Det, and_true] at hf); (try simp only [putL, Act.put, List.setIfInBounds_toArray, List.set_cons_zero, List.set_cons_succ]); (try simp only [hf]); go_simp; refine hK.out _ _ (Below.refl _ _) ?_; unfold Det; rfl)
    refine And.intro ⟨[(2, 23)], by kernel_rfl, fun xs W hW hf K hK => opV_free rfl ?_⟩ ?_
    focus (have hs := hS W hW; (try simp only [factsL, pickF, Det, and_true] at hf); (try simp only [putL, Act.put, List.setIfInBounds_toArray, List.set_cons_zero, List.set_cons_succ]); (try simp only [hf]); go_simp; refine hK.out _ _ (Below.refl _ _) ?_; unfold Det; rfl)
    refine And.intro ⟨[], by kernel_rfl, fun xs W hW hf K hK => opV_free rfl ?_⟩ ?_
    focus (have hs := hS W hW; (try simp only [factsL] at hf); (try simp only [putL]); (try simp only [hf]); go_simp; refine hK.out _ _ (Below.refl _ _) ?_; unfold Det; rfl)
    refine And.intro ⟨[(4, 25)], by kernel_rfl, fun xs W hW hf K hK => opV_free rfl ?_⟩ ?_
    · simp only [factsL, pickF, Det, and_true] at hf
      (try simp only [putL, Act.put, List.setIfInBounds_toArray, List.set_cons_zero, List.set_cons_succ])
      simp only [hf]
      go_simp
      refine (HT.out _ (hL.trans (hW.mono hlz)) (Nat.le_trans hlz hW.size)).mono ?_
      rintro _ _ ⟨rfl, rfl⟩
      exact ⟨_, rfl, hK.out _ _ (Below.refl _ _) rfl⟩
    refine And.intro ⟨[(5, 26), (3, 24)], by kernel_rfl, fun xs W hW hf K hK => opV_free rfl ?_⟩ ?_
    focus (have hs := hS W hW; (try simp only [factsL, pickF, Det, and_true] at hf); (try simp only [putL, Act.put, List.setIfInBounds_toArray, List.set_cons_zero, List.set_cons_succ]); (try simp only [hf]); go_simp; refine hK.out _ _ (Below.refl _ _) ?_; unfold Det; rfl)
    trivial
  case hst => exact ⟨det_stays, det_stays, det_stays, det_stays, det_stays, det_stays, det_stays, noF_stays, trivial⟩
  case hend =>
    intro xs W hW hf
    simp only [factsA, Det, noF, Nat.zero_add, Nat.reduceAdd, and_true] at hf
    refine opV_free rfl ?_
    (simp only [putL, Act.put, upd, List.setIfInBounds_toArray, List.set_cons_zero, List.set_cons_succ])
    simp only [hf]
    clear hf
    have gh := gh.below hW gh.lt
    have g0 := g0.below hW g0.lt
    have z1 := g0.free 0; have z2 := g0.free 1
    have z3 := g0.cell 0; have z4 := g0.cell 1
    simp at z3 z4
    have gz1 := gh.lt; have gz2 := g0.lt
    go_simp
    go_wp2_with fail
    have gh1 := (gh.far ⟨w.heap.size, 0, none⟩ (by show h ≠ w.heap.size; omega) (.int .i64 y)).far ⟨w.heap.size, 1, none⟩ (by show h ≠ w.heap.size; omega) (.int .i64 tot)
    have g01 := (g0.set 0 (.int .i64 y)).set 1 (.int .i64 tot)
    simp at g01
    have hT1 : TurnB (fun r => r = h) w.heap.size w ((W.setCell ⟨w.heap.size, 0, none⟩ (.int .i64 y)).setCell ⟨w.heap.size, 1, none⟩ (.int .i64 tot)) :=
      hT9.trans (Below.turn (((hW.mono (Nat.le_trans (Nat.le_of_lt hlt) (Nat.le_refl _))).setCell (p := ⟨w.heap.size, 0, none⟩) (Nat.le_refl _) _).setCell (p := ⟨w.heap.size, 1, none⟩) (Nat.le_refl _) _))
    generalize (W.setCell ⟨w.heap.size, 0, none⟩ (.int .i64 y)).setCell ⟨w.heap.size, 1, none⟩ (.int .i64 tot) = W3 at gh1 g01 hT1 ⊢
    have q0 := g01.cell 0; have q1 := g01.cell 1
    simp at q0 q1
    exact bodyPost_ret (v := .agg #[.int .i64 y, .int .i64 tot]) (by simp [results, Try.results124, go_sem, q0, q1]) rfl ⟨rfl, gh1, hT1⟩
theorem LeftAt.cell {W : World} {b : Nat} {l : List Int} (h : LeftAt W b l) {j : Nat} (hj : j < l.length) : W.cell? ⟨b, j, none⟩ = some (.int .i64 l[j]) := by
  obtain ⟨cur, hb, ht⟩ := h
  rw [hb.cell j, ← Array.getElem?_toList]
  have := congrArg (fun q => q[j]?) ht
  simp only [List.getElem?_map, List.getElem?_eq_getElem hj, Option.map_some] at this
  rw [List.getElem?_take_of_lt hj] at this
  exact this
theorem LeftAt.free {W : World} {b : Nat} {l : List Int} (h : LeftAt W b l) (j : Nat) : W.frozen? ⟨b, j, none⟩ = false := by
  obtain ⟨cur, hb, ht⟩ := h
  exact hb.free j
theorem LeftAt.lt {W : World} {b : Nat} {l : List Int} (h : LeftAt W b l) : b < W.heap.size := by
  obtain ⟨cur, hb, ht⟩ := h
  exact hb.lt
theorem LeftAt.put {W : World} {b : Nat} {l : List Int} (h : LeftAt W b l) (j : Nat) (x : Int) : LeftAt (W.setCell ⟨b, j, none⟩ (.int .i64 x)) b (l.set j x) := by
  obtain ⟨cur, hb, ht⟩ := h
  refine ⟨_, hb.set j (.int .i64 x), ?_⟩
  rw [Array.toList_setIfInBounds, List.length_set, List.take_set, ht, List.map_set]
theorem LeftAt.far {W : World} {b : Nat} {l : List Int} (h : LeftAt W b l) (p : Addr) (hp : b ≠ p.block) (v : Value) : LeftAt (W.setCell p v) b l := by
  obtain ⟨cur, hb, ht⟩ := h
  exact ⟨cur, hb.far p hp v, ht⟩
theorem LeftAt.below {W W' : World} {b B : Nat} {l : List Int} (h : LeftAt W b l) (hw : Below B W W') (hb : b < B) : LeftAt W' b l := by
  obtain ⟨cur, hb', ht⟩ := h
  exact ⟨cur, hb'.below hw hb, ht⟩
set_option maxRecDepth 100000 in
theorem clone_any (A : Addr) (c : Nat) (l : List Int) (w : World) (hl : l.length ≤ 1000000) (h0 : 0 < l.length) (hr : Sl intCell 1 w w.heap.size (some A) l) :
    Calls Try.prog 126 #[.slice (some A) l.length c] w fun e w' => ∃ B k, e = .returned (.slice (some ⟨B, 0, none⟩) l.length k) ∧ LeftAt w' B l ∧ w.heap.size ≤ B ∧ Below w.heap.size w w' := by
  obtain ⟨i0, hi, iz0, iz1, iz2⟩ := info_parts infoInt
  have hfl : (flat intCell l).length = l.length * 1 := hr.1
  have hcell : ∀ (j : Nat) (u : Value), (flat intCell l)[j]? = some u → (w.alloc (.cells #[] 3)).cell? (A.add j) = some u := fun j u hu => by
    obtain ⟨b, o, e, hb, hc⟩ := hr.2 h0
    cases e
    have h1 := hc j u hu
    rw [Go.WideShapes.add_plain, ((Below.refl w.heap.size w).alloc (Nat.le_refl _) _).cell (p := ⟨b, o + j, none⟩) hb]
    exact h1
  have hok : ∀ u ∈ flat intCell l, u.oneCell' = true := by rw [flat_int]; intro u hu; obtain ⟨x, _, rfl⟩ := List.mem_map.1 hu; rfl
  have hown := World.ownsRow_made (e := 3) (size := 1) w #[] 0 (base := w.heap.size) (Nat.le_refl _) (by simp) (by simp)
  have HO := Lib.hid hown; have HC := Lib.hid hcell; have HFL := Lib.hid hfl; have HOK := Lib.hid hok; have H0 := Lib.hid h0
  clear hown hcell hfl hr hok h0
  have qT : ∀ (w : World) (a : Option Addr) (n c n' c' : Nat), (binOp .eql 30 (.slice a n c) (.slice none n' c')).run Try.prog w = .ok (.bool a.isNone) w := fun w a n c n' c' => Lib.run_eql_slice_nil w _ _ a n c n' c' uInts
  go_enter Try.func126, Try.ntmps126
  go_wp2_with (first | (at_builtin; refine wpList_append_own _ rfl _ _ 30 rfl w.heap.size 3 i0 (.int .i64 0) 1 8 uInts hi iz0 iz1 iz2 rfl (by decide) _ _ _ rfl HO.out A l.length c (flat intCell l) rfl HFL.out HC.out HOK.out (by unfold maxLen; omega) (by omega) (by simp) ?_; intro v' w1 hown1 hgrow _) | fail)
  have hb1 : Below w.heap.size w w1 := ((Below.refl _ _).alloc (Nat.le_refl _) _).grown hgrow (by simp) (fun g hg => by cases hg; exact Nat.le_refl _)
  have HO1 := Lib.hid hown1
  clear hown1 hgrow
  go_wp2
  go_ret
  have h9 := HO1.out
  rcases h9.2 with ⟨-, h8⟩ | ⟨g, cap, cur, rfl, hb, hg, hn, hc, hs, ht⟩
  · have := H0.out
    simp at h8
    rw [h8] at this
    simp at this
  · refine ⟨g, cap, by simp, ⟨cur, hg, ?_⟩, hb, hb1⟩
    simp at ht
    rw [← flat_int]
    simpa using ht
set_option maxRecDepth 100000 in
set_option maxHeartbeats 4000000 in
theorem castStk_any (lo : Nat) (A : Option Addr) (c : Nat) (r0 : List Int) (tot : Int) (LA : Option Addr) (LN LC ai : Nat) (left : List Int) (af : Int) (h lb : Nat) (x : Nat) (w : World) (hlo : lo ≤ h) (_hlb : lo ≤ lb) (hx : x < r0.length) (hll : r0.length ≤ 1000000)
    (hh : Blk w h #[.slice A r0.length c, .int .i64 tot, .slice LA LN LC, .int .i64 (ai : Int), .int .i64 af] 129) (hr : Sl intCell 1 w lo A r0) (htot : 0 ≤ tot ∧ tot ≤ 1000000000) (haf : 1 ≤ af ∧ af ≤ 1000000000) (hai : (ai : Int) < af)
    (hleft : ai ≠ 0 → LA = some ⟨lb, 0, none⟩ ∧ LN = left.length ∧ LeftAt w lb left ∧ lb ≠ h) (hlen : ai ≠ 0 → left.length = r0.length) (hl0 : ai = 0 → left = r0) (hbd : -1000000000 ≤ left.getD x 0 ∧ left.getD x 0 ≤ 1000000000) :
    Calls Try.prog 125 #[.pointer (some ⟨h, 0, none⟩), .int .i64 (x : Int)] w fun e w' => e = .returned (.agg #[.int .i64 (max (left.getD x 0) 0), .int .i64 (tot - (ai : Int))]) ∧
      ∃ lb' LC', Blk w' h #[.slice A r0.length c, .int .i64 tot, .slice (some ⟨lb', 0, none⟩) left.length LC', .int .i64 (((ai + 1) % af.toNat : Nat) : Int), .int .i64 af] 129 ∧ LeftAt w' lb' (left.set x (left.getD x 0 - 1)) ∧ lb' ≠ h ∧ (lb' = lb ∨ w.heap.size ≤ lb') ∧ TurnB (fun r => r = h ∨ r = lb) w.heap.size w w' := by
  have hlen' : left.length = r0.length := by
    by_cases e : ai = 0
    · rw [hl0 e]
    · exact hlen e
  have hhl := hh.lt
  have hw0 : lo ≤ w.heap.size := by omega
  obtain ⟨n, hn⟩ : ∃ n, n = r0.length := ⟨_, rfl⟩
  have HCL := Lib.hid (fun W (hW : Below w.heap.size w W) (a : Addr) (e : A = some a) => clone_any a c r0 W (by omega) (by omega) (by rw [← e]; exact (hr.below (hW.mono hw0)).more (Nat.le_trans hw0 hW.size)))
  have HA : ∃ a, A = some a := by
    obtain ⟨b, o, e, _⟩ := hr.int_at hx
    exact ⟨_, e⟩
  obtain ⟨a, rfl⟩ := HA
  have HCL := Lib.hid (fun W (hW : Below w.heap.size w W) => HCL.out W hW a rfl)
  clear hr
  obtain ⟨y, hy⟩ : ∃ y, y = left.getD x 0 := ⟨_, rfl⟩
  have hxl : x < left.length := by omega
  have HY : Hid (left[x] = y) := (by show _ = _; rw [hy]; simp [hxl] : _)
  have z0 := hh.cell 0; have z1 := hh.cell 1; have z2 := hh.cell 2; have z3 := hh.cell 3; have z4 := hh.cell 4
  simp at z0 z1 z2 z3 z4
  rw [← hy] at hbd ⊢
  rw [← hlen'] at hh HCL z0 ⊢
  have HL := Lib.hid hleft; have HL0 := Lib.hid hl0
  have HH := Lib.hid hh
  have hh1 := hh.free 2
  clear hleft hl0 hlen hlen' hh hy hn hx hll
  have hHw : Hid (Blk w h #[.slice (some a) left.length c, .int .i64 tot, .slice LA LN LC, .int .i64 (ai : Int), .int .i64 af] 129) := HH
  by_cases h0 : ai = 0
  · have hQ : ((ai : Int) == 0) = true := by simp; exact h0
    go_enter Try.func125, Try.ntmps125
    go_wp2_with (first | (go_at_call 126; refine (HCL.out _ (by (repeat (first | exact Below.refl _ _ | assumption | (refine Below.alloc ?_ (by first | omega | (simp; omega) | (simp; done)) _) | (refine Below.setCell ?_ (by first | omega | (simp; omega) | (simp; done)) _) | (refine Below.drew ?_) | (refine belowN ?_ _) | (refine Below.trans ?_ (Below.mono ‹Below _ _ _› (by first | omega | (simp; omega) | (simp; done)))))))).mono ?_; rintro _ w2 ⟨lb', LC', rfl, hl2, hge, hb2⟩; refine Hid.out ?_) | fail)
    have hbb : Below w.heap.size w w2 := ((Below.refl _ w).alloc (Nat.le_refl _) _).trans (hb2.mono (by simp))
    have hge1 : w.heap.size + 1 ≤ lb' := by simpa using hge
    have e2 := HH.out.below hbb hhl
    have s0 := (Blk.new w #[.int .i64 0, .int .i64 0] 87).below hb2 (by simp)
    have f2 := e2.free 2; have c2 := e2.cell 2
    simp at c2
    clear hb2 hge z0 z1 z2 z3 z4
    refine Lib.hid ?_
    go_wp2_with fail
    refine gen_w (fun W => Blk W h #[.slice (some a) left.length c, .int .i64 tot, .slice (some ⟨lb', 0, none⟩) left.length LC', .int .i64 (ai : Int), .int .i64 af] 129 ∧ LeftAt W lb' left ∧ Blk W w.heap.size #[.int .i64 0, .int .i64 0] 87 ∧ TurnB (fun r => r = h ∨ r = lb) w.heap.size w W) ⟨?_, ?_, ?_, ?_⟩ ?_
    · have := e2.set 2 (.slice (some ⟨lb', 0, none⟩) left.length LC'); simp at this; exact this
    · rw [HL0.out h0]; exact hl2.far _ (by show lb' ≠ h; omega) _
    · exact s0.far _ (by show w.heap.size ≠ h; omega) _
    · exact TurnB.setCell (P := fun r => r = h ∨ r = lb) (Below.turn hbb) (.inl rfl) _
    have hgl : w.heap.size ≤ lb' := by omega
    have hne : lb' ≠ h := by omega
    have hne2 : lb' ≠ w.heap.size := by omega
    clear hbb e2 s0 f2 c2 hl2 hge1 h0 hQ
    rintro V ⟨gh, gl, g0, hT⟩
    have lh := gh.lt; have ll := gl.lt; have l0 := g0.lt
    have hS : ∀ W, Below V.heap.size V W → W.cell? ⟨h, 1, none⟩ = some (.int .i64 tot) ∧ W.cell? ⟨h, 2, none⟩ = some (.slice (some ⟨lb', 0, none⟩) left.length LC') ∧ W.cell? ⟨h, 3, none⟩ = some (.int .i64 (ai : Int)) ∧ W.cell? ⟨lb', x, none⟩ = some (.int .i64 y) := fun W hW => by
      have gh := gh.below hW lh
      have c1 := gh.cell 1; have c2 := gh.cell 2; have c3 := gh.cell 3
      simp at c1 c2 c3
      exact ⟨c1, c2, c3, by rw [← HY.out]; exact (gl.below hW ll).cell hxl⟩
    have x0 : (0 : Int) ≤ (x : Int) := by omega
    have x1 : (x : Int) < (left.length : Int) := by omega
    have wr1 : IntKind.i64.wrap (tot - (ai : Int)) = tot - (ai : Int) := IntWalk.i64_in _ ⟨by omega, by omega⟩
    have wr2 : IntKind.i64.wrap (y - 1) = y - 1 := IntWalk.i64_in _ ⟨by omega, by omega⟩
    have wr3 : IntKind.i64.wrap ((ai : Int) + 1) = (ai : Int) + 1 := IntWalk.i64_in _ ⟨by omega, by omega⟩
    go_cut [5] (fun s5 wx => ∃ b3 : Nat, s5 = .pointer (some ⟨b3, 0, none⟩) ∧ Hid (Below V.heap.size V wx) ∧ V.heap.size ≤ b3 ∧ Hid (Blk wx b3 #[.int .i64 (max y 0), .int .i64 (tot - (ai : Int))] 87))
    case first =>
      refine' wp_region_plan 20 [19, 18, 17, 16, 15, 14, 13, 12, 11, 10, 9, 8, 7, 6, 5, 4, 3, 2, 1, 0] [.eff, .eff, .eff, .eff, .eff, .eff, .eff, .eff, .eff, .eff, .eff, .eff, .eff, .eff, .eff, .eff, .eff, .eff, .eff, .eff, .last] [Det _, Det _, Det _, Det _, Det _, Det _, Det _, Det (.int .i64 (max y 0)), Det _, Det _, Det _, Det _, Det _, Det _, Det _, Det _, Det _, Det _, Det _, fun x W => ∃ b3, x = .pointer (some ⟨b3, 0, none⟩) ∧ Blk W b3 #[.int .i64 0, .int .i64 0] 87 ∧ V.heap.size ≤ b3, noF] (by rfl) [(19, 5), (18, 38)] [(19, 5), (18, 38), (17, 37), (16, 36), (15, 35), (14, 34), (13, 33), (12, 32), (11, 31), (10, 30), (9, 29), (8, 28), (7, 27), (6, 26), (5, 25), (4, 24), (3, 23), (2, 22), (1, 21), (0, 20)] (by kernel_rfl) (by kernel_rfl) (by kernel_rfl) (by kernel_rfl) (by kernel_rfl) (by kernel_rfl) (by kernel_rfl) (by kernel_rfl) (by kernel_rfl) rfl ?hp ?hend ?hst
      case hp =>
        refine And.intro ⟨[], by kernel_rfl, fun xs W hW hf K hK => opV_free rfl ?_⟩ ?_
        focus (have hs := hS W hW; (try simp only [factsL] at hf); (try simp only [putL]); (try simp only [hf]); go_simp; refine hK.out _ _ (Below.refl _ _) ?_; unfold Det; rfl)
        refine And.intro ⟨[(0, 20)], by kernel_rfl, fun xs W hW hf K hK => opV_free rfl ?_⟩ ?_
        focus (have hs := hS W hW; (try simp only [factsL, pickF, Det, and_true] at hf); (try simp only [putL, Act.put, List.setIfInBounds_toArray, List.set_cons_zero, List.set_cons_succ]); (try simp only [hf]); go_simp; refine hK.out _ _ (Below.refl _ _) ?_; unfold Det; rfl)
        refine And.intro ⟨[(1, 21)], by kernel_rfl, fun xs W hW hf K hK => opV_free rfl ?_⟩ ?_
        focus (have hs := hS W hW; (try simp only [factsL, pickF, Det, and_true] at hf); (try simp only [putL, Act.put, List.setIfInBounds_toArray, List.set_cons_zero, List.set_cons_succ]); (try simp only [hf]); go_simp; refine hK.out _ _ (Below.refl _ _) ?_; unfold Det; rfl)
        refine And.intro ⟨[(2, 22)], by kernel_rfl, fun xs W hW hf K hK => opV_free rfl ?_⟩ ?_
        focus (have hs := hS W hW; (try simp only [factsL, pickF, Det, and_true] at hf); (try simp only [putL, Act.put, List.setIfInBounds_toArray, List.set_cons_zero, List.set_cons_succ]); (try simp only [hf]); go_simp; refine hK.out _ _ (Below.refl _ _) ?_; unfold Det; rfl)
        refine And.intro ⟨[], by kernel_rfl, fun xs W hW hf K hK => opV_free rfl ?_⟩ ?_
        focus (have hs := hS W hW; (try simp only [factsL] at hf); (try simp only [putL]); (try simp only [hf]); go_simp; refine hK.out _ _ (Below.refl _ _) ?_; unfold Det; rfl)
        refine And.intro ⟨[(4, 24), (3, 23)], by kernel_rfl, fun xs W hW hf K hK => opV_free rfl ?_⟩ ?_
        focus (have hs := hS W hW; (try simp only [factsL, pickF, Det, and_true] at hf); (try simp only [putL, Act.put, List.setIfInBounds_toArray, List.set_cons_zero, List.set_cons_succ]); (try simp only [hf]); go_simp; refine hK.out _ _ (Below.refl _ _) ?_; unfold Det; rfl)
        refine And.intro ⟨[(5, 25)], by kernel_rfl, fun xs W hW hf K hK => opV_free rfl ?_⟩ ?_
        focus (have hs := hS W hW; (try simp only [factsL, pickF, Det, and_true] at hf); (try simp only [putL, Act.put, List.setIfInBounds_toArray, List.set_cons_zero, List.set_cons_succ]); (try simp only [hf]); go_simp; refine hK.out _ _ (Below.refl _ _) ?_; unfold Det; rfl)
        refine And.intro ⟨[(6, 26)], by kernel_rfl, fun xs W hW hf K hK => opV_free rfl ?_⟩ ?_
        focus (have hs := hS W hW; (try simp only [factsL, pickF, Det, and_true] at hf); (try simp only [putL, Act.put, List.setIfInBounds_toArray, List.set_cons_zero, List.set_cons_succ]); (try simp only [hf]); go_simp; refine hK.out _ _ (Below.refl _ _) ?_; unfold Det; rfl)
        refine And.intro ⟨[], by kernel_rfl, fun xs W hW hf K hK => opV_free rfl ?_⟩ ?_
        focus (have hs := hS W hW; (try simp only [factsL] at hf); (try simp only [putL]); (try simp only [hf]); go_simp; refine hK.out _ _ (Below.refl _ _) ?_; unfold Det; rfl)
        refine And.intro ⟨[(8, 28)], by kernel_rfl, fun xs W hW hf K hK => opV_free rfl ?_⟩ ?_
        focus (have hs := hS W hW; (try simp only [factsL, pickF, Det, and_true] at hf); (try simp only [putL, Act.put, List.setIfInBounds_toArray, List.set_cons_zero, List.set_cons_succ]); (try simp only [hf]); go_simp; refine hK.out _ _ (Below.refl _ _) ?_; unfold Det; rfl)
        refine And.intro ⟨[(9, 29)], by kernel_rfl, fun xs W hW hf K hK => opV_free rfl ?_⟩ ?_
        focus (have hs := hS W hW; (try simp only [factsL, pickF, Det, and_true] at hf); (try simp only [putL, Act.put, List.setIfInBounds_toArray, List.set_cons_zero, List.set_cons_succ]); (try simp only [hf]); go_simp; refine hK.out _ _ (Below.refl _ _) ?_; unfold Det; rfl)
        refine And.intro ⟨[(10, 30)], by kernel_rfl, fun xs W hW hf K hK => opV_free rfl ?_⟩ ?_
        focus (have hs := hS W hW; (try simp only [factsL, pickF, Det, and_true] at hf); (try simp only [putL, Act.put, List.setIfInBounds_toArray, List.set_cons_zero, List.set_cons_succ]); (try simp only [hf]); go_simp; refine hK.out _ _ (Below.refl _ _) ?_; unfold Det; rfl)
        refine And.intro ⟨[(11, 31)], by kernel_rfl, fun xs W hW hf K hK => opV_free rfl ?_⟩ ?_
        focus (have hs := hS W hW; (try simp only [factsL, pickF, Det, and_true] at hf); (try simp only [putL, Act.put, List.setIfInBounds_toArray, List.set_cons_zero, List.set_cons_succ]); (try simp only [hf]); go_simp; refine hK.out _ _ (Below.refl _ _) ?_; unfold Det; rfl)
        refine And.intro ⟨[], by kernel_rfl, fun xs W hW hf K hK => opV_free rfl ?_⟩ ?_
        focus (have hs := hS W hW; (try simp only [factsL] at hf); (try simp only [putL]); (try simp only [hf]); go_simp; refine hK.out _ _ (Below.refl _ _) ?_; unfold Det; rfl)
        refine And.intro ⟨[(13, 33)], by kernel_rfl, fun xs W hW hf K hK => opV_free rfl ?_⟩ ?_
        focus (have hs := hS W hW; (try simp only [factsL, pickF, Det, and_true] at hf); (try simp only [putL, Act.put, List.setIfInBounds_toArray, List.set_cons_zero, List.set_cons_succ]); (try simp only [hf]); go_simp; refine hK.out _ _ (Below.refl _ _) ?_; unfold Det; rfl)
        refine And.intro ⟨[(14, 34)], by kernel_rfl, fun xs W hW hf K hK => opV_free rfl ?_⟩ ?_
        focus (have hs := hS W hW; (try simp only [factsL, pickF, Det, and_true] at hf); (try simp only [putL, Act.put, List.setIfInBounds_toArray, List.set_cons_zero, List.set_cons_succ]); (try simp only [hf]); go_simp; refine hK.out _ _ (Below.refl _ _) ?_; unfold Det; rfl)
        refine And.intro ⟨[(15, 35)], by kernel_rfl, fun xs W hW hf K hK => opV_free rfl ?_⟩ ?_
        focus (have hs := hS W hW; (try simp only [factsL, pickF, Det, and_true] at hf); (try simp only [putL, Act.put, List.setIfInBounds_toArray, List.set_cons_zero, List.set_cons_succ]); (try simp only [hf]); go_simp; refine hK.out _ _ (Below.refl _ _) ?_; unfold Det; rfl)
        refine And.intro ⟨[(16, 36), (12, 32)], by kernel_rfl, fun xs W hW hf K hK => opV_free rfl ?_⟩ ?_
        focus (have hs := hS W hW; (try simp only [factsL, pickF, Det, and_true] at hf); (try simp only [putL, Act.put, List.setIfInBounds_toArray, List.set_cons_zero, List.set_cons_succ]); (try simp only [hf]); go_simp; refine hK.out _ _ (Below.refl _ _) ?_; unfold Det; rfl)
        refine And.intro ⟨[(17, 37), (7, 27)], by kernel_rfl, fun xs W hW hf K hK => opV_free rfl ?_⟩ ?_
        focus (have hs := hS W hW; (try simp only [factsL, pickF, Det, and_true] at hf); (try simp only [putL, Act.put, List.setIfInBounds_toArray, List.set_cons_zero, List.set_cons_succ]); (try simp only [hf]); go_simp; refine hK.out _ _ (Below.refl _ _) ?_; unfold Det; rfl)
        refine And.intro ⟨[], by kernel_rfl, fun xs W hW hf K hK => opV_free rfl ?_⟩ ?_
        · simp only [factsL] at hf
          (try simp only [putL])
          go_simp
          exact hK.out _ _ ((Below.refl _ _).alloc (Nat.le_refl _) _) ⟨_, rfl, Blk.new _ _ _, hW.size⟩
        trivial
      case hst => exact ⟨det_stays, det_stays, det_stays, det_stays, det_stays, det_stays, det_stays, det_stays, det_stays, det_stays, det_stays, det_stays, det_stays, det_stays, det_stays, det_stays, det_stays, det_stays, det_stays, fun x W W' ⟨b, h1, h2, h3⟩ hb => ⟨b, h1, h2.below hb h2.lt, h3⟩, noF_stays, trivial⟩
      case hend =>
        intro xs W hW hf
        simp only [factsA, Det, noF, Nat.zero_add, Nat.reduceAdd, and_true] at hf
        obtain ⟨f0, f1, f2, f3, f4, f5, f6, f7, f8, f9, f10, f11, f12, f13, f14, f15, f16, f17, f18, b3, f19, hB, hz⟩ := hf
        refine opV_free rfl ?_
        (simp only [putL, Act.put, upd, List.setIfInBounds_toArray, List.set_cons_zero, List.set_cons_succ])
        simp only [f0, f1, f2, f3, f4, f5, f6, f7, f8, f9, f10, f11, f12, f13, f14, f15, f16, f17, f18, f19]
        have hB0 := hB.free 0; have hB1 := hB.free 1
        have hC0 := hB.cell 0; have hC1 := hB.cell 1
        simp at hC0 hC1
        go_simp
        go_wp2_with fail
        go_meet
        refine ⟨b3, rfl, (hW.setCell (p := ⟨b3, 0, none⟩) hz _).setCell (p := ⟨b3, 1, none⟩) hz _, hz, ?_⟩
        have := (hB.set 0 (.int .i64 (max y 0))).set 1 (.int .i64 (tot - (ai : Int))); simp at this; exact this
    case rest =>
      obtain ⟨b3, rfl, HV, hz, HB⟩ := hcut
      rename World => W
      have gh := gh.below HV.out lh
      have gl := gl.below HV.out ll
      have g0 := g0.below HV.out l0
      have c1 := gh.cell 1; have c2 := gh.cell 2; have c3 := gh.cell 3; have c4 := gh.cell 4
      have d0 := HB.out.cell 0; have d1 := HB.out.cell 1
      simp at c1 c2 c3 c4 d0 d1
      have cy : W.cell? ⟨lb', x, none⟩ = some (.int .i64 y) := by rw [← HY.out]; exact gl.cell hxl
      have fy := gl.free x
      have fh := gh.free 3
      have k1 : b3 ≠ h := by omega
      have k2 : b3 ≠ lb' := by omega
      clear hS
      go_wp2_with fail
      have hwv : w.heap.size ≤ V.heap.size := hT.size
      refine gen_w (fun W' => Blk W' h #[.slice (some a) left.length c, .int .i64 tot, .slice (some ⟨lb', 0, none⟩) left.length LC', .int .i64 (ai : Int), .int .i64 af] 129 ∧ LeftAt W' lb' (left.set x (y - 1)) ∧ Blk W' w.heap.size #[.int .i64 0, .int .i64 0] 87 ∧ Blk W' b3 #[.int .i64 (max y 0), .int .i64 (tot - (ai : Int))] 87 ∧ TurnB (fun r => r = h ∨ r = lb) w.heap.size w W') ⟨gh.far _ (by show h ≠ lb'; omega) _, gl.put x (y - 1), g0.far _ (by show w.heap.size ≠ lb'; omega) _, HB.out.far _ (by show b3 ≠ lb'; omega) _, TurnB.setAny (p := ⟨lb', x, none⟩) (hT.trans (Below.turn (HV.out.mono hwv))) (by first | exact .inr (by show w.heap.size ≤ lb'; omega) | exact .inl (.inr rfl)) _⟩ ?_
      clear HV HB gh gl g0 hT c1 c2 c3 c4 d0 d1 cy fy fh
      rintro V2 ⟨gh, gl, g0, g3, hT⟩
      have c1 := gh.cell 1; have c2 := gh.cell 2; have c3 := gh.cell 3; have c4 := gh.cell 4
      have fh := gh.free 3
      simp at c1 c2 c3 c4
      have lh2 := gh.lt
      have ne0 : ¬ af = 0 := by omega
      have nb0 : (af == 0) = false := by simp; omega
      obtain ⟨ai2, hai2⟩ : ∃ q, q = (ai + 1) % af.toNat := ⟨_, rfl⟩
      have md : ((ai : Int) + 1).tmod af = (ai2 : Int) := by
        rw [Int.tmod_eq_emod_of_nonneg (by omega), hai2]; push_cast; rw [Int.toNat_of_nonneg (by omega)]
      have HAI := Lib.hid hai2
      clear hai2
      have hS : ∀ W, Below V2.heap.size V2 W → W.cell? ⟨h, 3, none⟩ = some (.int .i64 (ai : Int)) ∧ W.cell? ⟨h, 4, none⟩ = some (.int .i64 af) := fun W hW => by
        have gh := gh.below hW lh2
        have c3 := gh.cell 3; have c4 := gh.cell 4
        simp at c3 c4
        exact ⟨c3, c4⟩
      refine' wp_region_plan 13 [12, 11, 10, 9, 8, 7, 6, 5, 4, 3, 2, 1, 0] [.eff, .eff, .eff, .eff, .eff, .eff, .eff, .eff, .eff, .eff, .eff, .eff, .eff, .last] [Det _, Det _, Det _, Det _, Det _, Det _, Det _, Det _, Det _, Det _, Det _, Det _, Det _, noF] (by rfl) [(12, 60), (10, 58)] [(12, 60), (11, 59), (10, 58), (9, 57), (8, 56), (7, 55), (6, 54), (5, 53), (4, 52), (3, 51), (2, 50), (1, 49), (0, 48)] (by kernel_rfl) (by kernel_rfl) (by kernel_rfl) (by kernel_rfl) (by kernel_rfl) (by kernel_rfl) (by kernel_rfl) (by kernel_rfl) (by kernel_rfl) rfl ?hp ?hend ?hst
      case hp =>
        refine And.intro ⟨[], by kernel_rfl, fun xs W hW hf K hK => opV_free rfl ?_⟩ ?_
        focus (have hs := hS W hW; (try simp only [factsL] at hf); (try simp only [putL]); (try simp only [hf]); go_simp; refine hK.out _ _ (Below.refl _ _) ?_; unfold Det; rfl)
        refine And.intro ⟨[], by kernel_rfl, fun xs W hW hf K hK => opV_free rfl ?_⟩ ?_
        focus (have hs := hS W hW; (try simp only [factsL] at hf); (try simp only [putL]); (try simp only [hf]); go_simp; refine hK.out _ _ (Below.refl _ _) ?_; unfold Det; rfl)
        refine And.intro ⟨[(1, 49)], by kernel_rfl, fun xs W hW hf K hK => opV_free rfl ?_⟩ ?_
        focus (have hs := hS W hW; (try simp only [factsL, pickF, Det, and_true] at hf); (try simp only [putL, Act.put, List.setIfInBounds_toArray, List.set_cons_zero, List.set_cons_succ]); (try simp only [hf]); go_simp; refine hK.out _ _ (Below.refl _ _) ?_; unfold Det; rfl)
        refine And.intro ⟨[(2, 50)], by kernel_rfl, fun xs W hW hf K hK => opV_free rfl ?_⟩ ?_
        focus (have hs := hS W hW; (try simp only [factsL, pickF, Det, and_true] at hf); (try simp only [putL, Act.put, List.setIfInBounds_toArray, List.set_cons_zero, List.set_cons_succ]); (try simp only [hf]); go_simp; refine hK.out _ _ (Below.refl _ _) ?_; unfold Det; rfl)
        refine And.intro ⟨[(3, 51)], by kernel_rfl, fun xs W hW hf K hK => opV_free rfl ?_⟩ ?_
        focus (have hs := hS W hW; (try simp only [factsL, pickF, Det, and_true] at hf); (try simp only [putL, Act.put, List.setIfInBounds_toArray, List.set_cons_zero, List.set_cons_succ]); (try simp only [hf]); go_simp; refine hK.out _ _ (Below.refl _ _) ?_; unfold Det; rfl)
        refine And.intro ⟨[(4, 52)], by kernel_rfl, fun xs W hW hf K hK => opV_free rfl ?_⟩ ?_
        focus (have hs := hS W hW; (try simp only [factsL, pickF, Det, and_true] at hf); (try simp only [putL, Act.put, List.setIfInBounds_toArray, List.set_cons_zero, List.set_cons_succ]); (try simp only [hf]); go_simp; refine hK.out _ _ (Below.refl _ _) ?_; unfold Det; rfl)
        refine And.intro ⟨[], by kernel_rfl, fun xs W hW hf K hK => opV_free rfl ?_⟩ ?_
        focus (have hs := hS W hW; (try simp only [factsL] at hf); (try simp only [putL]); (try simp only [hf]); go_simp; refine hK.out _ _ (Below.refl _ _) ?_; unfold Det; rfl)
        refine And.intro ⟨[(6, 54)], by kernel_rfl, fun xs W hW hf K hK => opV_free rfl ?_⟩ ?_
        focus (have hs := hS W hW; (try simp only [factsL, pickF, Det, and_true] at hf); (try simp only [putL, Act.put, List.setIfInBounds_toArray, List.set_cons_zero, List.set_cons_succ]); (try simp only [hf]); go_simp; refine hK.out _ _ (Below.refl _ _) ?_; unfold Det; rfl)
        refine And.intro ⟨[(7, 55)], by kernel_rfl, fun xs W hW hf K hK => opV_free rfl ?_⟩ ?_
        focus (have hs := hS W hW; (try simp only [factsL, pickF, Det, and_true] at hf); (try simp only [putL, Act.put, List.setIfInBounds_toArray, List.set_cons_zero, List.set_cons_succ]); (try simp only [hf]); go_simp; refine hK.out _ _ (Below.refl _ _) ?_; unfold Det; rfl)
        refine And.intro ⟨[(8, 56)], by kernel_rfl, fun xs W hW hf K hK => opV_free rfl ?_⟩ ?_
        focus (have hs := hS W hW; (try simp only [factsL, pickF, Det, and_true] at hf); (try simp only [putL, Act.put, List.setIfInBounds_toArray, List.set_cons_zero, List.set_cons_succ]); (try simp only [hf]); go_simp; refine hK.out _ _ (Below.refl _ _) ?_; unfold Det; rfl)
        refine And.intro ⟨[(9, 57), (5, 53)], by kernel_rfl, fun xs W hW hf K hK => opV_free rfl ?_⟩ ?_
        focus (have hs := hS W hW; (try simp only [factsL, pickF, Det, and_true] at hf); (try simp only [putL, Act.put, List.setIfInBounds_toArray, List.set_cons_zero, List.set_cons_succ]); (try simp only [hf]); go_simp; refine hK.out _ _ (Below.refl _ _) ?_; unfold Det; rfl)
        refine And.intro ⟨[(0, 48)], by kernel_rfl, fun xs W hW hf K hK => opV_free rfl ?_⟩ ?_
        focus (have hs := hS W hW; (try simp only [factsL, pickF, Det, and_true] at hf); (try simp only [putL, Act.put, List.setIfInBounds_toArray, List.set_cons_zero, List.set_cons_succ]); (try simp only [hf]); go_simp; refine hK.out _ _ (Below.refl _ _) ?_; unfold Det; rfl)
        refine And.intro ⟨[(11, 59)], by kernel_rfl, fun xs W hW hf K hK => opV_free rfl ?_⟩ ?_
        focus (have hs := hS W hW; (try simp only [factsL, pickF, Det, and_true] at hf); (try simp only [putL, Act.put, List.setIfInBounds_toArray, List.set_cons_zero, List.set_cons_succ]); (try simp only [hf]); go_simp; refine hK.out _ _ (Below.refl _ _) ?_; unfold Det; rfl)
        trivial
      case hst => exact ⟨det_stays, det_stays, det_stays, det_stays, det_stays, det_stays, det_stays, det_stays, det_stays, det_stays, det_stays, det_stays, det_stays, noF_stays, trivial⟩
      case hend =>
        intro xs W3 hW hf
        simp only [factsA, Det, noF, Nat.zero_add, Nat.reduceAdd, and_true] at hf
        refine opV_free rfl ?_
        (simp only [putL, Act.put, upd, List.setIfInBounds_toArray, List.set_cons_zero, List.set_cons_succ])
        simp only [hf]
        clear hf hS
        have lg0 := g0.lt; have lg3 := g3.lt; have lgl := gl.lt
        have gh := gh.below hW lh2
        have gl := gl.below hW lgl
        have g0 := g0.below hW lg0
        have g3 := g3.below hW lg3
        have hT3 := hT.trans (Below.turn (hW.mono hT.size))
        have d0 := g3.cell 0; have d1 := g3.cell 1; have r0 := g0.cell 0; have r1 := g0.cell 1
        have f3 := gh.free 3; have f0 := g0.free 0; have f1 := g0.free 1
        have c3 := gh.cell 3
        simp at d0 d1 r0 r1 c3
        have lw3 := hW.size
        have k3 : w.heap.size ≠ h := by omega
        have k4 : w.heap.size ≠ b3 := by omega
        go_simp
        go_wp2_with fail
        have gh4 := ((gh.set 3 (.int .i64 (ai2 : Int))).far ⟨w.heap.size, 0, none⟩ (by show h ≠ w.heap.size; omega) (.int .i64 (max y 0))).far ⟨w.heap.size, 1, none⟩ (by show h ≠ w.heap.size; omega) (.int .i64 (tot - (ai : Int)))
        have gl4 := ((gl.far ⟨h, 3, none⟩ (by show lb' ≠ h; omega) (.int .i64 (ai2 : Int))).far ⟨w.heap.size, 0, none⟩ (by show lb' ≠ w.heap.size; omega) (.int .i64 (max y 0))).far ⟨w.heap.size, 1, none⟩ (by show lb' ≠ w.heap.size; omega) (.int .i64 (tot - (ai : Int)))
        have g04 := ((g0.far ⟨h, 3, none⟩ (by show w.heap.size ≠ h; omega) (.int .i64 (ai2 : Int))).set 0 (.int .i64 (max y 0))).set 1 (.int .i64 (tot - (ai : Int)))
        have hT4 := ((hT3.setAny (p := ⟨h, 3, none⟩) (.inl (.inl rfl)) (.int .i64 (ai2 : Int))).setAny (p := ⟨w.heap.size, 0, none⟩) (.inr (Nat.le_refl _)) (.int .i64 (max y 0))).setAny (p := ⟨w.heap.size, 1, none⟩) (.inr (Nat.le_refl _)) (.int .i64 (tot - (ai : Int)))
        simp at gh4 g04
        clear gh gl g0 hT hT3 g3 f3 f0 f1 c3 r0 r1 d0 d1
        generalize ((W3.setCell ⟨h, 3, none⟩ (.int .i64 (ai2 : Int))).setCell ⟨w.heap.size, 0, none⟩ (.int .i64 (max y 0))).setCell ⟨w.heap.size, 1, none⟩ (.int .i64 (tot - (ai : Int))) = W4 at gh4 gl4 g04 hT4 ⊢
        have q0 := g04.cell 0; have q1 := g04.cell 1
        simp at q0 q1
        refine bodyPost_ret (v := .agg #[.int .i64 (max y 0), .int .i64 (tot - (ai : Int))]) (by simp [results, Try.results125, go_sem, q0, q1]) rfl ⟨rfl, lb', LC', ?_, gl4, hne, (by first | exact .inr (by omega) | exact .inl rfl), hT4⟩
        rw [← HAI.out]
        exact gh4
  · have hQ : ((ai : Int) == 0) = false := by simp; exact h0
    obtain ⟨rfl, rfl, hl2, hne⟩ := HL.out h0
    go_enter Try.func125, Try.ntmps125
    go_wp2_with fail
    refine gen_w (fun W => Blk W h #[.slice (some a) left.length c, .int .i64 tot, .slice (some ⟨lb, 0, none⟩) left.length LC, .int .i64 (ai : Int), .int .i64 af] 129 ∧ LeftAt W lb left ∧ Blk W w.heap.size #[.int .i64 0, .int .i64 0] 87 ∧ TurnB (fun r => r = h ∨ r = lb) w.heap.size w W) ⟨HH.out.alloc _, hl2.below (B := w.heap.size) (by (repeat (first | exact Below.refl _ _ | assumption | (refine Below.alloc ?_ (by first | omega | (simp; omega) | (simp; done)) _) | (refine Below.setCell ?_ (by first | omega | (simp; omega) | (simp; done)) _) | (refine Below.drew ?_) | (refine belowN ?_ _) | (refine Below.trans ?_ (Below.mono ‹Below _ _ _› (by first | omega | (simp; omega) | (simp; done))))))) hl2.lt, Blk.new w _ _, Below.turn (by (repeat (first | exact Below.refl _ _ | assumption | (refine Below.alloc ?_ (by first | omega | (simp; omega) | (simp; done)) _) | (refine Below.setCell ?_ (by first | omega | (simp; omega) | (simp; done)) _) | (refine Below.drew ?_) | (refine belowN ?_ _) | (refine Below.trans ?_ (Below.mono ‹Below _ _ _› (by first | omega | (simp; omega) | (simp; done)))))))⟩ ?_
    have hne2 : lb ≠ w.heap.size := by have := hl2.lt; omega
    clear hl2 z0 z1 z2 z3 z4 h0 hQ
    rintro V ⟨gh, gl, g0, hT⟩
    have lh := gh.lt; have ll := gl.lt; have l0 := g0.lt
    have hS : ∀ W, Below V.heap.size V W → W.cell? ⟨h, 1, none⟩ = some (.int .i64 tot) ∧ W.cell? ⟨h, 2, none⟩ = some (.slice (some ⟨lb, 0, none⟩) left.length LC) ∧ W.cell? ⟨h, 3, none⟩ = some (.int .i64 (ai : Int)) ∧ W.cell? ⟨lb, x, none⟩ = some (.int .i64 y) := fun W hW => by
      have gh := gh.below hW lh
      have c1 := gh.cell 1; have c2 := gh.cell 2; have c3 := gh.cell 3
      simp at c1 c2 c3
      exact ⟨c1, c2, c3, by rw [← HY.out]; exact (gl.below hW ll).cell hxl⟩
    have x0 : (0 : Int) ≤ (x : Int) := by omega
    have x1 : (x : Int) < (left.length : Int) := by omega
    have wr1 : IntKind.i64.wrap (tot - (ai : Int)) = tot - (ai : Int) := IntWalk.i64_in _ ⟨by omega, by omega⟩
    have wr2 : IntKind.i64.wrap (y - 1) = y - 1 := IntWalk.i64_in _ ⟨by omega, by omega⟩
    have wr3 : IntKind.i64.wrap ((ai : Int) + 1) = (ai : Int) + 1 := IntWalk.i64_in _ ⟨by omega, by omega⟩
    go_cut [5] (fun s5 wx => ∃ b3 : Nat, s5 = .pointer (some ⟨b3, 0, none⟩) ∧ Hid (Below V.heap.size V wx) ∧ V.heap.size ≤ b3 ∧ Hid (Blk wx b3 #[.int .i64 (max y 0), .int .i64 (tot - (ai : Int))] 87))
    case first =>
      refine' wp_region_plan 20 [19, 18, 17, 16, 15, 14, 13, 12, 11, 10, 9, 8, 7, 6, 5, 4, 3, 2, 1, 0] [.eff, .eff, .eff, .eff, .eff, .eff, .eff, .eff, .eff, .eff, .eff, .eff, .eff, .eff, .eff, .eff, .eff, .eff, .eff, .eff, .last] [Det _, Det _, Det _, Det _, Det _, Det _, Det _, Det (.int .i64 (max y 0)), Det _, Det _, Det _, Det _, Det _, Det _, Det _, Det _, Det _, Det _, Det _, fun x W => ∃ b3, x = .pointer (some ⟨b3, 0, none⟩) ∧ Blk W b3 #[.int .i64 0, .int .i64 0] 87 ∧ V.heap.size ≤ b3, noF] (by rfl) [(19, 5), (18, 38)] [(19, 5), (18, 38), (17, 37), (16, 36), (15, 35), (14, 34), (13, 33), (12, 32), (11, 31), (10, 30), (9, 29), (8, 28), (7, 27), (6, 26), (5, 25), (4, 24), (3, 23), (2, 22), (1, 21), (0, 20)] (by kernel_rfl) (by kernel_rfl) (by kernel_rfl) (by kernel_rfl) (by kernel_rfl) (by kernel_rfl) (by kernel_rfl) (by kernel_rfl) (by kernel_rfl) rfl ?hp ?hend ?hst
      case hp =>
        refine And.intro ⟨[], by kernel_rfl, fun xs W hW hf K hK => opV_free rfl ?_⟩ ?_
        focus (have hs := hS W hW; (try simp only [factsL] at hf); (try simp only [putL]); (try simp only [hf]); go_simp; refine hK.out _ _ (Below.refl _ _) ?_; unfold Det; rfl)
        refine And.intro ⟨[(0, 20)], by kernel_rfl, fun xs W hW hf K hK => opV_free rfl ?_⟩ ?_
        focus (have hs := hS W hW; (try simp only [factsL, pickF, Det, and_true] at hf); (try simp only [putL, Act.put, List.setIfInBounds_toArray, List.set_cons_zero, List.set_cons_succ]); (try simp only [hf]); go_simp; refine hK.out _ _ (Below.refl _ _) ?_; unfold Det; rfl)
        refine And.intro ⟨[(1, 21)], by kernel_rfl, fun xs W hW hf K hK => opV_free rfl ?_⟩ ?_
        focus (have hs := hS W hW; (try simp only [factsL, pickF, Det, and_true] at hf); (try simp only [putL, Act.put, List.setIfInBounds_toArray, List.set_cons_zero, List.set_cons_succ]); (try simp only [hf]); go_simp; refine hK.out _ _ (Below.refl _ _) ?_; unfold Det; rfl)
        refine And.intro ⟨[(2, 22)], by kernel_rfl, fun xs W hW hf K hK => opV_free rfl ?_⟩ ?_
        focus (have hs := hS W hW; (try simp only [factsL, pickF, Det, and_true] at hf); (try simp only [putL, Act.put, List.setIfInBounds_toArray, List.set_cons_zero, List.set_cons_succ]); (try simp only [hf]); go_simp; refine hK.out _ _ (Below.refl _ _) ?_; unfold Det; rfl)
        refine And.intro ⟨[], by kernel_rfl, fun xs W hW hf K hK => opV_free rfl ?_⟩ ?_
        focus (have hs := hS W hW; (try simp only [factsL] at hf); (try simp only [putL]); (try simp only [hf]); go_simp; refine hK.out _ _ (Below.refl _ _) ?_; unfold Det; rfl)
        refine And.intro ⟨[(4, 24), (3, 23)], by kernel_rfl, fun xs W hW hf K hK => opV_free rfl ?_⟩ ?_
        focus (have hs := hS W hW; (try simp only [factsL, pickF, Det, and_true] at hf); (try simp only [putL, Act.put, List.setIfInBounds_toArray, List.set_cons_zero, List.set_cons_succ]); (try simp only [hf]); go_simp; refine hK.out _ _ (Below.refl _ _) ?_; unfold Det; rfl)
        refine And.intro ⟨[(5, 25)], by kernel_rfl, fun xs W hW hf K hK => opV_free rfl ?_⟩ ?_
        focus (have hs := hS W hW; (try simp only [factsL, pickF, Det, and_true] at hf); (try simp only [putL, Act.put, List.setIfInBounds_toArray, List.set_cons_zero, List.set_cons_succ]); (try simp only [hf]); go_simp; refine hK.out _ _ (Below.refl _ _) ?_; unfold Det; rfl)
        refine And.intro ⟨[(6, 26)], by kernel_rfl, fun xs W hW hf K hK => opV_free rfl ?_⟩ ?_
        focus (have hs := hS W hW; (try simp only [factsL, pickF, Det, and_true] at hf); (try simp only [putL, Act.put, List.setIfInBounds_toArray, List.set_cons_zero, List.set_cons_succ]); (try simp only [hf]); go_simp; refine hK.out _ _ (Below.refl _ _) ?_; unfold Det; rfl)
        refine And.intro ⟨[], by kernel_rfl, fun xs W hW hf K hK => opV_free rfl ?_⟩ ?_
        focus (have hs := hS W hW; (try simp only [factsL] at hf); (try simp only [putL]); (try simp only [hf]); go_simp; refine hK.out _ _ (Below.refl _ _) ?_; unfold Det; rfl)
        refine And.intro ⟨[(8, 28)], by kernel_rfl, fun xs W hW hf K hK => opV_free rfl ?_⟩ ?_
        focus (have hs := hS W hW; (try simp only [factsL, pickF, Det, and_true] at hf); (try simp only [putL, Act.put, List.setIfInBounds_toArray, List.set_cons_zero, List.set_cons_succ]); (try simp only [hf]); go_simp; refine hK.out _ _ (Below.refl _ _) ?_; unfold Det; rfl)
        refine And.intro ⟨[(9, 29)], by kernel_rfl, fun xs W hW hf K hK => opV_free rfl ?_⟩ ?_
        focus (have hs := hS W hW; (try simp only [factsL, pickF, Det, and_true] at hf); (try simp only [putL, Act.put, List.setIfInBounds_toArray, List.set_cons_zero, List.set_cons_succ]); (try simp only [hf]); go_simp; refine hK.out _ _ (Below.refl _ _) ?_; unfold Det; rfl)
        refine And.intro ⟨[(10, 30)], by kernel_rfl, fun xs W hW hf K hK => opV_free rfl ?_⟩ ?_
        focus (have hs := hS W hW; (try simp only [factsL, pickF, Det, and_true] at hf); (try simp only [putL, Act.put, List.setIfInBounds_toArray, List.set_cons_zero, List.set_cons_succ]); (try simp only [hf]); go_simp; refine hK.out _ _ (Below.refl _ _) ?_; unfold Det; rfl)
        refine And.intro ⟨[(11, 31)], by kernel_rfl, fun xs W hW hf K hK => opV_free rfl ?_⟩ ?_
        focus (have hs := hS W hW; (try simp only [factsL, pickF, Det, and_true] at hf); (try simp only [putL, Act.put, List.setIfInBounds_toArray, List.set_cons_zero, List.set_cons_succ]); (try simp only [hf]); go_simp; refine hK.out _ _ (Below.refl _ _) ?_; unfold Det; rfl)
        refine And.intro ⟨[], by kernel_rfl, fun xs W hW hf K hK => opV_free rfl ?_⟩ ?_
        focus (have hs := hS W hW; (try simp only [factsL] at hf); (try simp only [putL]); (try simp only [hf]); go_simp; refine hK.out _ _ (Below.refl _ _) ?_; unfold Det; rfl)
        refine And.intro ⟨[(13, 33)], by kernel_rfl, fun xs W hW hf K hK => opV_free rfl ?_⟩ ?_
        focus (have hs := hS W hW; (try simp only [factsL, pickF, Det, and_true] at hf); (try simp only [putL, Act.put, List.setIfInBounds_toArray, List.set_cons_zero, List.set_cons_succ]); (try simp only [hf]); go_simp; refine hK.out _ _ (Below.refl _ _) ?_; unfold Det; rfl)
        refine And.intro ⟨[(14, 34)], by kernel_rfl, fun xs W hW hf K hK => opV_free rfl ?_⟩ ?_
        focus (have hs := hS W hW; (try simp only [factsL, pickF, Det, and_true] at hf); (try simp only [putL, Act.put, List.setIfInBounds_toArray, List.set_cons_zero, List.set_cons_succ]); (try simp only [hf]); go_simp; refine hK.out _ _ (Below.refl _ _) ?_; unfold Det; rfl)
        refine And.intro ⟨[(15, 35)], by kernel_rfl, fun xs W hW hf K hK => opV_free rfl ?_⟩ ?_
        focus (have hs := hS W hW; (try simp only [factsL, pickF, Det, and_true] at hf); (try simp only [putL, Act.put, List.setIfInBounds_toArray, List.set_cons_zero, List.set_cons_succ]); (try simp only [hf]); go_simp; refine hK.out _ _ (Below.refl _ _) ?_; unfold Det; rfl)
        refine And.intro ⟨[(16, 36), (12, 32)], by kernel_rfl, fun xs W hW hf K hK => opV_free rfl ?_⟩ ?_
        focus (have hs := hS W hW; (try simp only [factsL, pickF, Det, and_true] at hf); (try simp only [putL, Act.put, List.setIfInBounds_toArray, List.set_cons_zero, List.set_cons_succ]); (try simp only [hf]); go_simp; refine hK.out _ _ (Below.refl _ _) ?_; unfold Det; rfl)
        refine And.intro ⟨[(17, 37), (7, 27)], by kernel_rfl, fun xs W hW hf K hK => opV_free rfl ?_⟩ ?_
        focus (have hs := hS W hW; (try simp only [factsL, pickF, Det, and_true] at hf); (try simp only [putL, Act.put, List.setIfInBounds_toArray, List.set_cons_zero, List.set_cons_succ]); (try simp only [hf]); go_simp; refine hK.out _ _ (Below.refl _ _) ?_; unfold Det; rfl)
        refine And.intro ⟨[], by kernel_rfl, fun xs W hW hf K hK => opV_free rfl ?_⟩ ?_
        · simp only [factsL] at hf
          (try simp only [putL])
          go_simp
          exact hK.out _ _ ((Below.refl _ _).alloc (Nat.le_refl _) _) ⟨_, rfl, Blk.new _ _ _, hW.size⟩
        trivial
      case hst => exact ⟨det_stays, det_stays, det_stays, det_stays, det_stays, det_stays, det_stays, det_stays, det_stays, det_stays, det_stays, det_stays, det_stays, det_stays, det_stays, det_stays, det_stays, det_stays, det_stays, fun x W W' ⟨b, h1, h2, h3⟩ hb => ⟨b, h1, h2.below hb h2.lt, h3⟩, noF_stays, trivial⟩
      case hend =>
        intro xs W hW hf
        simp only [factsA, Det, noF, Nat.zero_add, Nat.reduceAdd, and_true] at hf
        obtain ⟨f0, f1, f2, f3, f4, f5, f6, f7, f8, f9, f10, f11, f12, f13, f14, f15, f16, f17, f18, b3, f19, hB, hz⟩ := hf
        refine opV_free rfl ?_
        (simp only [putL, Act.put, upd, List.setIfInBounds_toArray, List.set_cons_zero, List.set_cons_succ])
        simp only [f0, f1, f2, f3, f4, f5, f6, f7, f8, f9, f10, f11, f12, f13, f14, f15, f16, f17, f18, f19]
        have hB0 := hB.free 0; have hB1 := hB.free 1
        have hC0 := hB.cell 0; have hC1 := hB.cell 1
        simp at hC0 hC1
        go_simp
        go_wp2_with fail
        go_meet
        refine ⟨b3, rfl, (hW.setCell (p := ⟨b3, 0, none⟩) hz _).setCell (p := ⟨b3, 1, none⟩) hz _, hz, ?_⟩
        have := (hB.set 0 (.int .i64 (max y 0))).set 1 (.int .i64 (tot - (ai : Int))); simp at this; exact this
    case rest =>
      obtain ⟨b3, rfl, HV, hz, HB⟩ := hcut
      rename World => W
      have gh := gh.below HV.out lh
      have gl := gl.below HV.out ll
      have g0 := g0.below HV.out l0
      have c1 := gh.cell 1; have c2 := gh.cell 2; have c3 := gh.cell 3; have c4 := gh.cell 4
      have d0 := HB.out.cell 0; have d1 := HB.out.cell 1
      simp at c1 c2 c3 c4 d0 d1
      have cy : W.cell? ⟨lb, x, none⟩ = some (.int .i64 y) := by rw [← HY.out]; exact gl.cell hxl
      have fy := gl.free x
      have fh := gh.free 3
      have k1 : b3 ≠ h := by omega
      have k2 : b3 ≠ lb := by omega
      clear hS
      go_wp2_with fail
      have hwv : w.heap.size ≤ V.heap.size := hT.size
      refine gen_w (fun W' => Blk W' h #[.slice (some a) left.length c, .int .i64 tot, .slice (some ⟨lb, 0, none⟩) left.length LC, .int .i64 (ai : Int), .int .i64 af] 129 ∧ LeftAt W' lb (left.set x (y - 1)) ∧ Blk W' w.heap.size #[.int .i64 0, .int .i64 0] 87 ∧ Blk W' b3 #[.int .i64 (max y 0), .int .i64 (tot - (ai : Int))] 87 ∧ TurnB (fun r => r = h ∨ r = lb) w.heap.size w W') ⟨gh.far _ (by show h ≠ lb; omega) _, gl.put x (y - 1), g0.far _ (by show w.heap.size ≠ lb; omega) _, HB.out.far _ (by show b3 ≠ lb; omega) _, TurnB.setAny (p := ⟨lb, x, none⟩) (hT.trans (Below.turn (HV.out.mono hwv))) (by first | exact .inr (by show w.heap.size ≤ lb; omega) | exact .inl (.inr rfl)) _⟩ ?_
      clear HV HB gh gl g0 hT c1 c2 c3 c4 d0 d1 cy fy fh
      rintro V2 ⟨gh, gl, g0, g3, hT⟩
      have c1 := gh.cell 1; have c2 := gh.cell 2; have c3 := gh.cell 3; have c4 := gh.cell 4
      have fh := gh.free 3
      simp at c1 c2 c3 c4
      have lh2 := gh.lt
      have ne0 : ¬ af = 0 := by omega
      have nb0 : (af == 0) = false := by simp; omega
      obtain ⟨ai2, hai2⟩ : ∃ q, q = (ai + 1) % af.toNat := ⟨_, rfl⟩
      have md : ((ai : Int) + 1).tmod af = (ai2 : Int) := by
        rw [Int.tmod_eq_emod_of_nonneg (by omega), hai2]; push_cast; rw [Int.toNat_of_nonneg (by omega)]
      have HAI := Lib.hid hai2
      clear hai2
      have hS : ∀ W, Below V2.heap.size V2 W → W.cell? ⟨h, 3, none⟩ = some (.int .i64 (ai : Int)) ∧ W.cell? ⟨h, 4, none⟩ = some (.int .i64 af) := fun W hW => by
        have gh := gh.below hW lh2
        have c3 := gh.cell 3; have c4 := gh.cell 4
        simp at c3 c4
        exact ⟨c3, c4⟩
      refine' wp_region_plan 13 [12, 11, 10, 9, 8, 7, 6, 5, 4, 3, 2, 1, 0] [.eff, .eff, .eff, .eff, .eff, .eff, .eff, .eff, .eff, .eff, .eff, .eff, .eff, .last] [Det _, Det _, Det _, Det _, Det _, Det _, Det _, Det _, Det _, Det _, Det _, Det _, Det _, noF] (by rfl) [(12, 60), (10, 58)] [(12, 60), (11, 59), (10, 58), (9, 57), (8, 56), (7, 55), (6, 54), (5, 53), (4, 52), (3, 51), (2, 50), (1, 49), (0, 48)] (by kernel_rfl) (by kernel_rfl) (by kernel_rfl) (by kernel_rfl) (by kernel_rfl) (by kernel_rfl) (by kernel_rfl) (by kernel_rfl) (by kernel_rfl) rfl ?hp ?hend ?hst
      case hp =>
        refine And.intro ⟨[], by kernel_rfl, fun xs W hW hf K hK => opV_free rfl ?_⟩ ?_
        focus (have hs := hS W hW; (try simp only [factsL] at hf); (try simp only [putL]); (try simp only [hf]); go_simp; refine hK.out _ _ (Below.refl _ _) ?_; unfold Det; rfl)
        refine And.intro ⟨[], by kernel_rfl, fun xs W hW hf K hK => opV_free rfl ?_⟩ ?_
        focus (have hs := hS W hW; (try simp only [factsL] at hf); (try simp only [putL]); (try simp only [hf]); go_simp; refine hK.out _ _ (Below.refl _ _) ?_; unfold Det; rfl)
        refine And.intro ⟨[(1, 49)], by kernel_rfl, fun xs W hW hf K hK => opV_free rfl ?_⟩ ?_
        focus (have hs := hS W hW; (try simp only [factsL, pickF, Det, and_true] at hf); (try simp only [putL, Act.put, List.setIfInBounds_toArray, List.set_cons_zero, List.set_cons_succ]); (try simp only [hf]); go_simp; refine hK.out _ _ (Below.refl _ _) ?_; unfold Det; rfl)
        refine And.intro ⟨[(2, 50)], by kernel_rfl, fun xs W hW hf K hK => opV_free rfl ?_⟩ ?_
        focus (have hs := hS W hW; (try simp only [factsL, pickF, Det, and_true] at hf); (try simp only [putL, Act.put, List.setIfInBounds_toArray, List.set_cons_zero, List.set_cons_succ]); (try simp only [hf]); go_simp; refine hK.out _ _ (Below.refl _ _) ?_; unfold Det; rfl)
        refine And.intro ⟨[(3, 51)], by kernel_rfl, fun xs W hW hf K hK => opV_free rfl ?_⟩ ?_
        focus (have hs := hS W hW; (try simp only [factsL, pickF, Det, and_true] at hf); (try simp only [putL, Act.put, List.setIfInBounds_toArray, List.set_cons_zero, List.set_cons_succ]); (try simp only [hf]); go_simp; refine hK.out _ _ (Below.refl _ _) ?_; unfold Det; rfl)
        refine And.intro ⟨[(4, 52)], by kernel_rfl, fun xs W hW hf K hK => opV_free rfl ?_⟩ ?_
        focus (have hs := hS W hW; (try simp only [factsL, pickF, Det, and_true] at hf); (try simp only [putL, Act.put, List.setIfInBounds_toArray, List.set_cons_zero, List.set_cons_succ]); (try simp only [hf]); go_simp; refine hK.out _ _ (Below.refl _ _) ?_; unfold Det; rfl)
        refine And.intro ⟨[], by kernel_rfl, fun xs W hW hf K hK => opV_free rfl ?_⟩ ?_
        focus (have hs := hS W hW; (try simp only [factsL] at hf); (try simp only [putL]); (try simp only [hf]); go_simp; refine hK.out _ _ (Below.refl _ _) ?_; unfold Det; rfl)
        refine And.intro ⟨[(6, 54)], by kernel_rfl, fun xs W hW hf K hK => opV_free rfl ?_⟩ ?_
        focus (have hs := hS W hW; (try simp only [factsL, pickF, Det, and_true] at hf); (try simp only [putL, Act.put, List.setIfInBounds_toArray, List.set_cons_zero, List.set_cons_succ]); (try simp only [hf]); go_simp; refine hK.out _ _ (Below.refl _ _) ?_; unfold Det; rfl)
        refine And.intro ⟨[(7, 55)], by kernel_rfl, fun xs W hW hf K hK => opV_free rfl ?_⟩ ?_
        focus (have hs := hS W hW; (try simp only [factsL, pickF, Det, and_true] at hf); (try simp only [putL, Act.put, List.setIfInBounds_toArray, List.set_cons_zero, List.set_cons_succ]); (try simp only [hf]); go_simp; refine hK.out _ _ (Below.refl _ _) ?_; unfold Det; rfl)
        refine And.intro ⟨[(8, 56)], by kernel_rfl, fun xs W hW hf K hK => opV_free rfl ?_⟩ ?_
        focus (have hs := hS W hW; (try simp only [factsL, pickF, Det, and_true] at hf); (try simp only [putL, Act.put, List.setIfInBounds_toArray, List.set_cons_zero, List.set_cons_succ]); (try simp only [hf]); go_simp; refine hK.out _ _ (Below.refl _ _) ?_; unfold Det; rfl)
        refine And.intro ⟨[(9, 57), (5, 53)], by kernel_rfl, fun xs W hW hf K hK => opV_free rfl ?_⟩ ?_
        focus (have hs := hS W hW; (try simp only [factsL, pickF, Det, and_true] at hf); (try simp only [putL, Act.put, List.setIfInBounds_toArray, List.set_cons_zero, List.set_cons_succ]); (try simp only [hf]); go_simp; refine hK.out _ _ (Below.refl _ _) ?_; unfold Det; rfl)
        refine And.intro ⟨[(0, 48)], by kernel_rfl, fun xs W hW hf K hK => opV_free rfl ?_⟩ ?_
        focus (have hs := hS W hW; (try simp only [factsL, pickF, Det, and_true] at hf); (try simp only [putL, Act.put, List.setIfInBounds_toArray, List.set_cons_zero, List.set_cons_succ]); (try simp only [hf]); go_simp; refine hK.out _ _ (Below.refl _ _) ?_; unfold Det; rfl)
        refine And.intro ⟨[(11, 59)], by kernel_rfl, fun xs W hW hf K hK => opV_free rfl ?_⟩ ?_
        focus (have hs := hS W hW; (try simp only [factsL, pickF, Det, and_true] at hf); (try simp only [putL, Act.put, List.setIfInBounds_toArray, List.set_cons_zero, List.set_cons_succ]); (try simp only [hf]); go_simp; refine hK.out _ _ (Below.refl _ _) ?_; unfold Det; rfl)
        trivial
      case hst => exact ⟨det_stays, det_stays, det_stays, det_stays, det_stays, det_stays, det_stays, det_stays, det_stays, det_stays, det_stays, det_stays, det_stays, noF_stays, trivial⟩
      case hend =>
        intro xs W3 hW hf
        simp only [factsA, Det, noF, Nat.zero_add, Nat.reduceAdd, and_true] at hf
        refine opV_free rfl ?_
        (simp only [putL, Act.put, upd, List.setIfInBounds_toArray, List.set_cons_zero, List.set_cons_succ])
        simp only [hf]
        clear hf hS
        have lg0 := g0.lt; have lg3 := g3.lt; have lgl := gl.lt
        have gh := gh.below hW lh2
        have gl := gl.below hW lgl
        have g0 := g0.below hW lg0
        have g3 := g3.below hW lg3
        have hT3 := hT.trans (Below.turn (hW.mono hT.size))
        have d0 := g3.cell 0; have d1 := g3.cell 1; have r0 := g0.cell 0; have r1 := g0.cell 1
        have f3 := gh.free 3; have f0 := g0.free 0; have f1 := g0.free 1
        have c3 := gh.cell 3
        simp at d0 d1 r0 r1 c3
        have lw3 := hW.size
        have k3 : w.heap.size ≠ h := by omega
        have k4 : w.heap.size ≠ b3 := by omega
        go_simp
        go_wp2_with fail
        have gh4 := ((gh.set 3 (.int .i64 (ai2 : Int))).far ⟨w.heap.size, 0, none⟩ (by show h ≠ w.heap.size; omega) (.int .i64 (max y 0))).far ⟨w.heap.size, 1, none⟩ (by show h ≠ w.heap.size; omega) (.int .i64 (tot - (ai : Int)))
        have gl4 := ((gl.far ⟨h, 3, none⟩ (by show lb ≠ h; omega) (.int .i64 (ai2 : Int))).far ⟨w.heap.size, 0, none⟩ (by show lb ≠ w.heap.size; omega) (.int .i64 (max y 0))).far ⟨w.heap.size, 1, none⟩ (by show lb ≠ w.heap.size; omega) (.int .i64 (tot - (ai : Int)))
        have g04 := ((g0.far ⟨h, 3, none⟩ (by show w.heap.size ≠ h; omega) (.int .i64 (ai2 : Int))).set 0 (.int .i64 (max y 0))).set 1 (.int .i64 (tot - (ai : Int)))
        have hT4 := ((hT3.setAny (p := ⟨h, 3, none⟩) (.inl (.inl rfl)) (.int .i64 (ai2 : Int))).setAny (p := ⟨w.heap.size, 0, none⟩) (.inr (Nat.le_refl _)) (.int .i64 (max y 0))).setAny (p := ⟨w.heap.size, 1, none⟩) (.inr (Nat.le_refl _)) (.int .i64 (tot - (ai : Int)))
        simp at gh4 g04
        clear gh gl g0 hT hT3 g3 f3 f0 f1 c3 r0 r1 d0 d1
        generalize ((W3.setCell ⟨h, 3, none⟩ (.int .i64 (ai2 : Int))).setCell ⟨w.heap.size, 0, none⟩ (.int .i64 (max y 0))).setCell ⟨w.heap.size, 1, none⟩ (.int .i64 (tot - (ai : Int))) = W4 at gh4 gl4 g04 hT4 ⊢
        have q0 := g04.cell 0; have q1 := g04.cell 1
        simp at q0 q1
        refine bodyPost_ret (v := .agg #[.int .i64 (max y 0), .int .i64 (tot - (ai : Int))]) (by simp [results, Try.results125, go_sem, q0, q1]) rfl ⟨rfl, lb, LC, ?_, gl4, hne, (by first | exact .inr (by omega) | exact .inl rfl), hT4⟩
        rw [← HAI.out]
        exact gh4
end Go.Proofs.Ytiikkcifdhcejaa

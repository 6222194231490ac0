/- Helpers of the laws: own. -/
import Derived.Test.YtidlmbajpbbilaaHlB
namespace Go.Proofs.Ytidlmbajpbbilaa
open Go.RowKit

theorem gen_w {F : Act → World → Prop} {a : Act} {W : World} (P : World → Prop) (h : P W) (k : ∀ W', P W' → F a W') : F a W := k W h
theorem own_mono {W : World} {b e s n : Nat} {v : Value} {xs : List Value} (h : W.ownsRow b e s v n xs) : W.ownsRow 0 e s v n xs := by
  refine ⟨h.1, ?_⟩
  rcases h.2 with h2 | ⟨g, cap, cur, e1, _, h3⟩
  · exact .inl h2
  · exact .inr ⟨g, cap, cur, e1, Nat.zero_le _, h3⟩
theorem own_put {W : World} {b e s n : Nat} {v : Value} {xs : List Value} (h : W.ownsRow b e s v n xs) {k : Nat} (hk : k < b) (o : Nat) (x : Value) : (W.setCell ⟨k, o, none⟩ x).ownsRow b e s v n xs := by
  refine ⟨h.1, ?_⟩
  rcases h.2 with h2 | ⟨g, cap, cur, e1, hg, h3, h4⟩
  · exact .inl h2
  · exact .inr ⟨g, cap, cur, e1, hg, by rw [Below.heap_setCell _ _ _ _ (by show g ≠ k; omega)]; exact h3, h4⟩
theorem own_put' {W : World} {b e s n k t : Nat} {v : Value} {xs : List Value} (h : W.ownsRow b e s v n xs) (hk : ∃ cs, Blk W k cs t) (hne : e ≠ t) (o : Nat) (x : Value) : (W.setCell ⟨k, o, none⟩ x).ownsRow b e s v n xs := by
  refine ⟨h.1, ?_⟩
  rcases h.2 with h2 | ⟨g, cap, cur, e1, hg, h3, h4⟩
  · exact .inl h2
  · obtain ⟨cs, hk⟩ := hk
    exact .inr ⟨g, cap, cur, e1, hg, by
      rw [Below.heap_setCell _ _ _ _ (by show g ≠ k; rintro rfl; have hk2 : W.heap[g]? = some _ := hk; rw [h3] at hk2; cases hk2; exact hne rfl)]; exact h3, h4⟩
theorem RowsOf.put {W : World} {r : Rul} (h : RowsOf W r) {k : Nat} (hk : ∃ cs, Blk W k cs 24) (o : Nat) (x : Value) : RowsOf (W.setCell ⟨k, o, none⟩ x) r :=
  ⟨own_put' h.w_ hk (by decide) o x, own_put' h.u_ hk (by decide) o x, h.l1, h.l2, h.ok⟩
theorem bk_put {W : World} {k t : Nat} (hk : ∃ cs, Blk W k cs t) (k' o : Nat) (x : Value) : ∃ cs, Blk (W.setCell ⟨k', o, none⟩ x) k cs t := by
  obtain ⟨cs, hk⟩ := hk
  by_cases h : k = k'
  · subst h; exact ⟨_, hk.set o x⟩
  · exact ⟨_, hk.far _ h x⟩
theorem own_ge {W : World} {b e s n g : Nat} {v : Value} {xs : List Value} (h : W.ownsRow b e s v n xs) (hg : v.ownBlock = some g) : b ≤ g := by
  rcases h.2 with ⟨rfl, _⟩ | ⟨g', cap, cur, rfl, hb, _⟩
  · cases hg
  · injection hg with hg; subst hg; exact hb

set_option maxRecDepth 100000 in
set_option maxHeartbeats 4000000 in
theorem own_any (s : Sch) (w : World) (hr : s.reads w w.heap.size) (h0 : s.nil0) (hl : s.rules.length ≤ 1000) : Calls Try.prog 17 #[scv s s.rv] w (RetOwnS s w) := by
  obtain ⟨i1, hi1, iy0, iy1, iy2⟩ := info_parts infoRule
  have HRR := Lib.hid hr; have HN0 := Lib.hid h0
  clear hr h0
  go_enter Try.func17, Try.ntmps17
  go_wp2
  refine wp_world (fun W => Below w.heap.size w W ∧ w.heap.size + 1 + 1 < W.heap.size ∧ Blk W w.heap.size #[.int .i64 s.places, .int .i64 s.signs, .int .i64 s.kinds, .int .i64 s.answers, s.rv] 24 ∧
    Blk W (w.heap.size + 1) #[.int .i64 0, .int .i64 0, .int .i64 0, .int .i64 0, .slice none 0 0] 24 ∧ W.ownsRow (w.heap.size + 1 + 1) 82 5 (.slice (some ⟨w.heap.size + 1 + 1, 0, none⟩) 0 0) 0 []) ?_ ?_
  · refine ⟨by (repeat (first | exact Below.refl _ _ | assumption | (refine Below.alloc ?_ (by first | omega | (simp; omega) | (simp; done)) _) | (refine Below.setCell ?_ (by first | omega | (simp; omega) | (simp; done)) _) | (refine Below.drew ?_) | (refine belowN ?_ _) | (refine Below.trans ?_ (Below.mono ‹Below _ _ _› (by first | omega | (simp; omega) | (simp; done)))))), by simp, ((Blk.at_ rfl).alloc _).alloc _, (Blk.at_ (by simp)).alloc _, ?_⟩
    have := World.ownsRow_made (e := 82) (size := 5) ((w.alloc (.cells #[.int .i64 s.places, .int .i64 s.signs, .int .i64 s.kinds, .int .i64 s.answers, s.rv] 24)).alloc (.cells #[.int .i64 0, .int .i64 0, .int .i64 0, .int .i64 0, .slice none 0 0] 24)) #[] 0 (base := w.heap.size + 1 + 1) (by simp) (by simp) (by simp)
    simpa using this
  rintro w0 ⟨hbw, hz0, g0, g1, hown0⟩
  have HO0 := Lib.hid hown0
  go_loopw [3, 4] (fun v i wr => ∃ (j : Nat) (l : List Rul), j ≤ s.rules.length ∧ i = .int .i64 j ∧ Hid (l.length = j) ∧ Hid (wr.ownsRow (w.heap.size + 1 + 1) 82 5 v l.length (flat Rul.cells l)) ∧ Hid (∀ r ∈ l, RowsOf wr r) ∧ Hid (l.map Rul.pl = (s.rules.take j).map Rul.pl) ∧
    Hid (Below w.heap.size w wr) ∧ w.heap.size + 1 + 1 < wr.heap.size ∧ Hid (Blk wr w.heap.size #[.int .i64 s.places, .int .i64 s.signs, .int .i64 s.kinds, .int .i64 s.answers, s.rv] 24) ∧ Hid (Blk wr (w.heap.size + 1) #[.int .i64 0, .int .i64 0, .int .i64 0, .int .i64 0, .slice none 0 0] 24)) (fun _ i _ => s.rules.length - (intOf i).toNat)
  case atStart => exact ⟨0, [], by omega, rfl, rfl, HO0, (fun r hr => by cases hr), rfl, hbw, hz0, g0, g1⟩
  case round =>
    obtain ⟨j, l, hj, rfl, hlj, hown, hrows, hpl, hbr, hzr, q0, q1⟩ := hrel
    have s4 := q0.out.cell 4
    simp at s4
    by_cases hlt : j < s.rules.length
    · have hrr := HRR.out.below hbr.out
      obtain ⟨ab, ao, hra, hblk, hcell⟩ := hrr.1.at_ (k := j) (fun _ => rfl) hlt
      have s4' : wr.cell? ⟨w.heap.size, 4, none⟩ = some (.slice (some ⟨ab, ao, none⟩) s.rules.length s.rc) := by rw [s4, ← hra]
      have hrl := (hrr.2.2 _ (List.getElem_mem hlt)).more hbr.out.size
      have hn0 := HN0.out.2 _ (List.getElem_mem hlt)
      have HTK := Lib.hid (List.take_succ_eq_append_getElem hlt)
      obtain ⟨r, hre⟩ : ∃ t, s.rules[j] = t := ⟨_, rfl⟩
      rw [hre] at hcell hrl hn0 HTK
      have c0 : wr.cell? ⟨ab, ao + j * 5, none⟩ = some (.slice r.wa r.when_.length r.wc) := hcell 0 _ rfl
      have c1 : wr.cell? ⟨ab, ao + j * 5 + 1, none⟩ = some (.int .i64 r.kinds) := hcell 1 _ rfl
      have c2 : wr.cell? ⟨ab, ao + j * 5 + 2, none⟩ = some (.int .i64 r.rank) := hcell 2 _ rfl
      have c3 : wr.cell? ⟨ab, ao + j * 5 + 3, none⟩ = some (.slice r.ua r.unless_.length r.uc) := hcell 3 _ rfl
      have c4 : wr.cell? ⟨ab, ao + j * 5 + 4, none⟩ = some (.int .i64 r.says) := hcell 4 _ rfl
      obtain ⟨hw1, hw2, hl1, hl2, hok⟩ := hrl
      have HT := fun W (hW : Below wr.heap.size wr W) => Lib.hid (ltests_any r.wa r.wc r.when_ W hl1 hn0.1 (oneCell_tests _ hok) ((hw1.below hW).more hW.size))
      have HI := fun W (hW : Below wr.heap.size wr W) => Lib.hid (lints_any r.ua r.uc r.unless_ W hl2 hn0.2 (oneCell_ints _) ((hw2.below hW).more hW.size))
      have HOK := Lib.hid hok
      clear hcell hre hra hrr s4 hw1 hw2 hok hn0
      go_wp2
      go_region_with (first | (go_at_call 37; refine ((HT _ (by (repeat (first | exact Below.refl _ _ | assumption | (refine Below.alloc ?_ (by first | omega | (simp; omega) | (simp; done)) _) | (refine Below.setCell ?_ (by first | omega | (simp; omega) | (simp; done)) _) | (refine Below.drew ?_) | (refine belowN ?_ _) | (refine Below.trans ?_ (Below.mono ‹Below _ _ _› (by first | omega | (simp; omega) | (simp; done)))))))).out).mono ?_; rintro e w1 ⟨v1, rfl, hown1, hb1⟩; have hc1 := fun b o (h : b < wr.heap.size + 1) => (bcell hb1).1 b o (by simp; omega); have hf1 := fun b o (h : b < wr.heap.size + 1) => (bcell hb1).2 b o (by simp; omega); have hz1 : wr.heap.size + 1 ≤ w1.heap.size := (by have := hb1.size; simp at this; omega); obtain ⟨A1, k1, hv1⟩ : ∃ A c, v1 = .slice A r.when_.length c := (by obtain ⟨A, c, h, _⟩ := Sl.of_own hown1; exact ⟨A, c, h⟩); subst hv1; have HO1 := Lib.hid hown1; clear hown1) | (go_at_call 38; have hbz : Below wr.heap.size wr w1 := Below.trans (by (repeat (first | exact Below.refl _ _ | assumption | (refine Below.alloc ?_ (by first | omega | (simp; omega) | (simp; done)) _) | (refine Below.setCell ?_ (by first | omega | (simp; omega) | (simp; done)) _) | (refine Below.drew ?_) | (refine belowN ?_ _) | (refine Below.trans ?_ (Below.mono ‹Below _ _ _› (by first | omega | (simp; omega) | (simp; done))))))) (Below.mono hb1 (by simp)); refine ((HI _ hbz).out).mono ?_; rintro e w2 ⟨v2, rfl, hown2, hb2⟩; have hc2 := fun b o (h : b < wr.heap.size + 1) => (bcell hb2).1 b o (by omega); have hf2 := fun b o (h : b < wr.heap.size + 1) => (bcell hb2).2 b o (by omega); obtain ⟨A2, k2, hv2⟩ : ∃ A c, v2 = .slice A r.unless_.length c := (by obtain ⟨A, c, h, _⟩ := Sl.of_own hown2; exact ⟨A, c, h⟩); subst hv2; have HO2 := Lib.hid hown2; clear hown2))
      all_goals (
        refine gen_w (fun W => Blk W wr.heap.size #[.slice A1 r.when_.length k1, .int .i64 r.kinds, .int .i64 r.rank, .slice A2 r.unless_.length k2, .int .i64 r.says] 82 ∧ Below wr.heap.size wr W ∧ W.ownsRow 0 103 4 (.slice A1 r.when_.length k1) r.when_.length (flat Tst.cells r.when_) ∧ W.ownsRow 0 3 1 (.slice A2 r.unless_.length k2) r.unless_.length (flat intCell r.unless_) ∧ wr.heap.size < W.heap.size) ?_ ?_
        · have gB : Blk w2 wr.heap.size #[.slice r.wa r.when_.length r.wc, .int .i64 r.kinds, .int .i64 r.rank, .slice r.ua r.unless_.length r.uc, .int .i64 r.says] 82 := ((show Blk ((wr.alloc (.cells #[.slice r.wa r.when_.length r.wc, .int .i64 r.kinds, .int .i64 r.rank, .slice r.ua r.unless_.length r.uc, .int .i64 r.says] 82)).drew) wr.heap.size #[.slice r.wa r.when_.length r.wc, .int .i64 r.kinds, .int .i64 r.rank, .slice r.ua r.unless_.length r.uc, .int .i64 r.says] 82 from Blk.new wr _ _).below hb1 (by simp)).below hb2 (by omega)
          have o1 := (HO1.out.kept (grown_of_below hb2) (by cases A1 <;> simp [Value.ownBlock]))
          have o2 := HO2.out
          have hB2 : Below wr.heap.size wr w2 := hbz.trans (hb2.mono (by omega))
          have hz2 := hb2.size
          refine ⟨?_, (hB2.setCell (Nat.le_refl _) _).setCell (Nat.le_refl _) _, ?_, ?_, by simp; omega⟩
          · first | exact (gB.set 0 _).set 3 _ | exact (gB.set 3 _).set 0 _
          · exact own_mono (own_put (own_put o1 (by simp) _ _) (by simp) _ _)
          · exact own_mono (own_put (own_put o2 (by omega) _ _) (by omega) _ _)
        clear hb1 hb2 hbz hc1 hf1 hc2 hf2 hz1 HO1 HO2
        rintro W4 ⟨g4, hb4, p1, p2, hz4⟩
        have l0 := g4.cell 0
        have l1 := g4.cell 1
        have l2 := g4.cell 2
        have l3 := g4.cell 3
        have l4 := g4.cell 4
        simp at l0 l1 l2 l3 l4
        have hc5 : ∀ (i : Nat) (u : Value), [Value.slice A1 r.when_.length k1, .int .i64 r.kinds, .int .i64 r.rank, .slice A2 r.unless_.length k2, .int .i64 r.says][i]? = some u → (W4.alloc (.cells #[.slice A1 r.when_.length k1, .int .i64 r.kinds, .int .i64 r.rank, .slice A2 r.unless_.length k2, .int .i64 r.says] 82)).cell? ((⟨W4.heap.size, 0, none⟩ : Addr).add i) = some u := fun i u hu => by
          rw [Go.WideShapes.add_plain, Nat.zero_add, (Blk.new W4 _ _).cell i, ← hu]; simp
        have how := hown.out.kept (grown_of_below hb4) (by cases hv : u3.ownBlock <;> simp)
        have HC5 := Lib.hid hc5
        have HOW := Lib.hid how
        clear hc5 how
        go_wp2_with (at_builtin; refine wpList_append_own _ rfl _ _ 22 rfl (w.heap.size + 1 + 1) 82 i1 (.agg #[.slice none 0 0, .int .i64 0, .int .i64 0, .slice none 0 0, .int .i64 0]) 5 72 uRules hi1 iy0 iy1 iy2 rfl (by decide) _ _ _ rfl (HOW.out.alloc _) ⟨W4.heap.size, 0, none⟩ 1 1 [.slice A1 r.when_.length k1, .int .i64 r.kinds, .int .i64 r.rank, .slice A2 r.unless_.length k2, .int .i64 r.says] rfl rfl HC5.out (by simp [Value.oneCell']) (by have := hlj.out; unfold maxLen; omega) (by have := hlj.out; omega) (by have := hlj.out; simp; omega) ?_; intro v' w5 hown5 hgrow _)
        have hol := hlj.out
        have hb45 : Below (w.heap.size + 1 + 1) wr w5 := ((hb4.mono (by omega)).alloc (by omega) _).grown hgrow (by simp; omega) (fun g hg => own_ge hown.out hg)
        have hbz5 : W4.heap.size < w5.heap.size := by have := hgrow.size; simp at this; omega
        refine ⟨⟨j + 1, l ++ [⟨A1, k1, r.when_, r.kinds, r.rank, A2, k2, r.unless_, r.says⟩], by omega, by simp, by show _ = _; simp [hol], by show World.ownsRow _ _ _ _ _ _ _; simpa [flat, Rul.cells] using hown5, ?_, ?_, hbr.out.trans (hb45.mono (by omega)), by omega, ?_, ?_⟩, by simp [intOf]; omega⟩
        · show ∀ r ∈ _, _
          have hA : ∀ q : Rul, RowsOf (W4.alloc (.cells #[.slice A1 r.when_.length k1, .int .i64 r.kinds, .int .i64 r.rank, .slice A2 r.unless_.length k2, .int .i64 r.says] 82)) q → RowsOf w5 q := fun q hq => hq.grown hgrow fun e v he ⟨s', n', xs', h'⟩ => by
            obtain h2 := ownsRow_apart h' (HOW.out.alloc (.cells #[.slice A1 r.when_.length k1, .int .i64 r.kinds, .int .i64 r.rank, .slice A2 r.unless_.length k2, .int .i64 r.says] 82)) (by rcases he with rfl | rfl <;> decide)
            exact h2
          intro q hq
          rcases List.mem_append.1 hq with hq | hq
          · exact hA q (((hrows.out q hq).below hb4).below ((Below.refl _ _).alloc (Nat.le_refl _) _))
          · obtain rfl : q = _ := by simpa using hq
            exact hA _ (RowsOf.below (W := W4) ⟨p1, p2, hl1, hl2, HOK.out⟩ ((Below.refl _ _).alloc (Nat.le_refl _) _))
        · show _ = _
          rw [HTK.out, List.map_append, List.map_append, hpl.out]; rfl
        · exact q0.out.below hb45 (by omega)
        · exact q1.out.below hb45 (by omega))
    · obtain rfl : j = s.rules.length := by omega
      have hjl := hlj.out
      obtain ⟨A, c, rfl, hs⟩ := Sl.of_own hown.out
      have HS := Lib.hid hs
      clear hs
      have t0 := q0.out.cell 0
      have t1 := q0.out.cell 1
      have t2 := q0.out.cell 2
      have t3 := q0.out.cell 3
      have f4 := q0.out.free 4
      have y0 := q1.out.free 0
      have y1 := q1.out.free 1
      have y2 := q1.out.free 2
      have y3 := q1.out.free 3
      have y4 := q1.out.free 4
      have x0 := q1.out.cell 0
      have x1 := q1.out.cell 1
      have x2 := q1.out.cell 2
      have x3 := q1.out.cell 3
      have x4 := q1.out.cell 4
      simp at t0 t1 t2 t3 x0 x1 x2 x3 x4
      go_wp2
      refine gen_w (fun W => Blk W (w.heap.size + 1) #[.int .i64 s.places, .int .i64 s.signs, .int .i64 s.kinds, .int .i64 s.answers, .slice A s.rules.length c] 24 ∧ (∀ r ∈ l, RowsOf W r) ∧ W.ownsRow (w.heap.size + 1 + 1) 82 5 (Value.slice A l.length c) l.length (flat Rul.cells l) ∧ Below w.heap.size w W) ?_ ?_
      · have k0 : ∃ cs, Blk wr w.heap.size cs 24 := ⟨_, q0.out⟩
        have k1 : ∃ cs, Blk wr (w.heap.size + 1) cs 24 := ⟨_, q1.out⟩
        have z1 := bk_put k1 w.heap.size 4 (Value.slice A s.rules.length c)
        have z2 := bk_put z1 (w.heap.size + 1) 0 (.int .i64 s.places)
        have z3 := bk_put z2 (w.heap.size + 1) 1 (.int .i64 s.signs)
        have z4 := bk_put z3 (w.heap.size + 1) 2 (.int .i64 s.kinds)
        have z5 := bk_put z4 (w.heap.size + 1) 3 (.int .i64 s.answers)
        refine ⟨((((((q1.out.far ⟨w.heap.size, 4, none⟩ (by simp) (Value.slice A s.rules.length c)).set 0 (.int .i64 s.places)).set 1 (.int .i64 s.signs)).set 2 (.int .i64 s.kinds)).set 3 (.int .i64 s.answers)).set 4 (Value.slice A s.rules.length c)), fun r hr => ((((((hrows.out r hr).put k0 4 (Value.slice A s.rules.length c)).put z1 0 (.int .i64 s.places)).put z2 1 (.int .i64 s.signs)).put z3 2 (.int .i64 s.kinds)).put z4 3 (.int .i64 s.answers)).put z5 4 (Value.slice A s.rules.length c), own_put (own_put (own_put (own_put (own_put (own_put hown.out (k := w.heap.size) (by omega) 4 (Value.slice A s.rules.length c)) (k := w.heap.size + 1) (by omega) 0 (.int .i64 s.places)) (k := w.heap.size + 1) (by omega) 1 (.int .i64 s.signs)) (k := w.heap.size + 1) (by omega) 2 (.int .i64 s.kinds)) (k := w.heap.size + 1) (by omega) 3 (.int .i64 s.answers)) (k := w.heap.size + 1) (by omega) 4 (Value.slice A s.rules.length c), ?_⟩
        exact (((((hbr.out.setCell (by simp) _).setCell (by simp) _).setCell (by simp) _).setCell (by simp) _).setCell (by simp) _).setCell (by simp) _
      clear hown hrows hbr q0 q1 hzr HS
      rintro Wf ⟨gz, hrw, how, hbf⟩
      have e0 := gz.cell 0
      have e1 := gz.cell 1
      have e2 := gz.cell 2
      have e3 := gz.cell 3
      have e4 := gz.cell 4
      simp at e0 e1 e2 e3 e4
      refine bodyPost_ret (v := .agg #[.int .i64 s.places, .int .i64 s.signs, .int .i64 s.kinds, .int .i64 s.answers, .slice A s.rules.length c]) (by simp [results, Try.results17, go_sem, e0, e1, e2, e3, e4]) rfl ?_
      obtain ⟨A', c', hv', hs'⟩ := Sl.of_own how
      cases hv'
      refine ⟨⟨s.places, s.signs, s.kinds, s.answers, A, c, l⟩, by rw [← hjl], ?_, ⟨hs', by show l.length ≤ _; omega, fun r hr => (hrw r hr).reads⟩, ⟨fun e => ?_, fun r hr => (hrw r hr).nil⟩, hbf⟩
      · have := hpl.out
        rw [List.take_length] at this
        simp only [Sch.pl, this]
      · rcases how.2 with ⟨hv, _⟩ | ⟨g, cap, cur, hv, _⟩
        · injection hv
        · replace e : A = none := e
          rw [e] at hv; cases hv
end Go.Proofs.Ytidlmbajpbbilaa

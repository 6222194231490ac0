/- The reference: Without, Same. -/
import Derived.Test.YtidlmbajpbbilaaOuA
import Derived.Test.YtidlmbajpbbilaaRgC
import Derived.Deep.RegionHeld
namespace Go.Proofs.Ytidlmbajpbbilaa
open Go.RowKit

/-- a school without some rules is returned -/
def RetOut (s : Sch) (O : Nat) (w : World) (e : Ending) (w' : World) : Prop := ∃ (A : Option Addr) (c : Nat), e = .returned (scv (s.offs O A c) (s.offs O A c).rv) ∧ (s.offs O A c).reads w' w'.heap.size ∧ Below w.heap.size w w'
theorem off_reads {r : Rul} {b : Bool} {W : World} {B : Nat} (h : r.reads W B) : (r.off b).reads W B := by
  cases b with
  | false => exact h
  | true => exact h
set_option maxRecDepth 100000 in
set_option maxHeartbeats 4000000 in
theorem rwithout_any (s : Sch) (O : Nat) (Z : Option Addr) (z : Nat) (w : World) (hr : s.reads w w.heap.size) (hl : s.rules.length ≤ 1000) (hZ : Sl boolCell 1 w w.heap.size Z (bitsB O s.rules.length)) :
    Calls Try.prog 95 #[scv s s.rv, .slice Z s.rules.length z] w (RetOut s O w) := by
  obtain ⟨i1, hi1, iy0, iy1, iy2⟩ := info_parts infoRule
  have HRR := Lib.hid hr; have HZ := Lib.hid hZ
  clear hr hZ
  go_enter Try.func95, Try.ntmps95
  go_wp2
  refine wp_world (fun W => Below w.heap.size w W ∧ w.heap.size + 1 + 1 < W.heap.size ∧ Blk W w.heap.size #[.int .i64 s.places, .int .i64 s.signs, .int .i64 s.kinds, .int .i64 s.answers, s.rv] 24 ∧
    Blk W (w.heap.size + 1) #[.int .i64 0, .int .i64 0, .int .i64 0, .int .i64 0, .slice none 0 0] 24 ∧ W.ownsRow (w.heap.size + 1 + 1) 82 5 (.slice (some ⟨w.heap.size + 1 + 1, 0, none⟩) 0 0) 0 []) ?_ ?_
  · refine ⟨by (repeat (first | exact Below.refl _ _ | assumption | (refine Below.alloc ?_ (by first | omega | (simp; omega) | (simp; done)) _) | (refine Below.setCell ?_ (by first | omega | (simp; omega) | (simp; done)) _) | (refine Below.drew ?_) | (refine belowN ?_ _) | (refine Below.trans ?_ (Below.mono ‹Below _ _ _› (by first | omega | (simp; omega) | (simp; done)))))), by simp, ((Blk.at_ rfl).alloc _).alloc _, (Blk.at_ (by simp)).alloc _, ?_⟩
    have := World.ownsRow_made (e := 82) (size := 5) ((w.alloc (.cells #[.int .i64 s.places, .int .i64 s.signs, .int .i64 s.kinds, .int .i64 s.answers, s.rv] 24)).alloc (.cells #[.int .i64 0, .int .i64 0, .int .i64 0, .int .i64 0, .slice none 0 0] 24)) #[] 0 (base := w.heap.size + 1 + 1) (by simp) (by simp) (by simp)
    simpa using this
  rintro w0 ⟨hbw, hz0, g0, g1, hown0⟩
  have HO0 := Lib.hid hown0
  go_loopw [5, 6] (fun v i wr => ∃ (j : Nat), j ≤ s.rules.length ∧ i = .int .i64 j ∧ Hid (wr.ownsRow (w.heap.size + 1 + 1) 82 5 v j (flat Rul.cells (offR O 0 (s.rules.take j)))) ∧
    Hid (Below w.heap.size w wr) ∧ w.heap.size + 1 + 1 < wr.heap.size ∧ Hid (Blk wr w.heap.size #[.int .i64 s.places, .int .i64 s.signs, .int .i64 s.kinds, .int .i64 s.answers, s.rv] 24) ∧ Hid (Blk wr (w.heap.size + 1) #[.int .i64 0, .int .i64 0, .int .i64 0, .int .i64 0, .slice none 0 0] 24)) (fun _ i _ => s.rules.length - (intOf i).toNat)
  case atStart => exact ⟨0, by omega, rfl, HO0, hbw, hz0, g0, g1⟩
  case round =>
    obtain ⟨j, hj, rfl, hown, hbr, hzr, q0, q1⟩ := hrel
    have s4 := q0.out.cell 4
    simp at s4
    by_cases hlt : j < s.rules.length
    · have hrr := HRR.out.below hbr.out
      obtain ⟨ab, ao, hra, hblk, hcell⟩ := hrr.1.at_ (k := j) (fun _ => rfl) hlt
      have s4' : wr.cell? ⟨w.heap.size, 4, none⟩ = some (.slice (some ⟨ab, ao, none⟩) s.rules.length s.rc) := by rw [s4, ← hra]
      obtain ⟨zb, zo, hza, hzblk, hzcell⟩ := (HZ.out.below hbr.out).at_ (k := j) (fun _ => rfl) (by rw [bitsB_len]; exact hlt)
      subst hza
      have hTK : s.rules.take (j + 1) = s.rules.take j ++ [s.rules[j]] := List.take_succ_eq_append_getElem hlt
      have HTK := Lib.hid hTK
      obtain ⟨r, hre⟩ : ∃ t, s.rules[j] = t := ⟨_, rfl⟩
      rw [hre] at hcell HTK
      have c0 : wr.cell? ⟨ab, ao + j * 5, none⟩ = some (.slice r.wa r.when_.length r.wc) := hcell 0 _ rfl
      have c1 : wr.cell? ⟨ab, ao + j * 5 + 1, none⟩ = some (.int .i64 r.kinds) := hcell 1 _ rfl
      have c2 : wr.cell? ⟨ab, ao + j * 5 + 2, none⟩ = some (.int .i64 r.rank) := hcell 2 _ rfl
      have c3 : wr.cell? ⟨ab, ao + j * 5 + 3, none⟩ = some (.slice r.ua r.unless_.length r.uc) := hcell 3 _ rfl
      have c4 : wr.cell? ⟨ab, ao + j * 5 + 4, none⟩ = some (.int .i64 r.says) := hcell 4 _ rfl
      have z0 : wr.cell? ⟨zb, zo + j, none⟩ = some (.bool (O.testBit j)) := by
        have h := hzcell 0 (.bool (O.testBit j)) (by
          have e : (bitsB O s.rules.length)[j]'(by rw [bitsB_len]; exact hlt) = O.testBit j := by simp [bitsB]
          rw [e]; rfl)
        simpa using h
      have hj0 : (0 : Int) ≤ (j : Int) := by omega
      have hj1 : (j : Int) < (s.rules.length : Int) := by omega
      have hzne : zb < wr.heap.size := by omega
      clear hcell hzcell hrr s4 hTK hre hra
      cases hbit : O.testBit j with
      | false =>
        rw [hbit] at z0
        obtain ⟨W4, hW4⟩ : ∃ W, W = wr.alloc (.cells #[.slice r.wa r.when_.length r.wc, .int .i64 r.kinds, .int .i64 r.rank, .slice r.ua r.unless_.length r.uc, .int .i64 r.says] 82) := ⟨_, rfl⟩
        have hb4 : Below wr.heap.size wr W4 := by rw [hW4]; first | exact (Below.refl _ _).alloc (Nat.le_refl _) _ | exact ((Below.refl _ _).alloc (Nat.le_refl _) _).setCell (Nat.le_refl _) _
        have hz4 : W4.heap.size = wr.heap.size + 1 := by rw [hW4]; simp
        have HC5 : Hid (∀ (i : Nat) (u : Value), [Value.slice r.wa r.when_.length r.wc, .int .i64 r.kinds, .int .i64 r.rank, .slice r.ua r.unless_.length r.uc, .int .i64 r.says][i]? = some u → (W4.alloc (.cells #[.slice r.wa r.when_.length r.wc, .int .i64 r.kinds, .int .i64 r.rank, .slice r.ua r.unless_.length r.uc, .int .i64 r.says] 82)).cell? ((⟨wr.heap.size + 1, 0, none⟩ : Addr).add i) = some u) := (fun i u hu => by
          rw [← hz4, Go.WideShapes.add_plain, Nat.zero_add, (Blk.new W4 _ _).cell i, ← hu]; simp)
        have how := hown.out.kept (grown_of_below hb4) (by cases hv : u5.ownBlock <;> simp)
        have HOW := Lib.hid how
        have HW4 := Lib.hid hW4
        have hoff : Hid ((r.off false).cells = [Value.slice r.wa r.when_.length r.wc, .int .i64 r.kinds, .int .i64 r.rank, .slice r.ua r.unless_.length r.uc, .int .i64 r.says]) := (rfl : (r.off false).cells = _)
        clear hW4 how
        go_wp2_with (at_builtin; rw [← HW4.out]; refine wpList_append_own _ rfl _ _ 22 rfl (w.heap.size + 1 + 1) 82 i1 (.agg #[.slice none 0 0, .int .i64 0, .int .i64 0, .slice none 0 0, .int .i64 0]) 5 72 uRules hi1 iy0 iy1 iy2 rfl (by decide) _ _ _ rfl (HOW.out.alloc _) ⟨wr.heap.size + 1, 0, none⟩ 1 1 [.slice r.wa r.when_.length r.wc, .int .i64 r.kinds, .int .i64 r.rank, .slice r.ua r.unless_.length r.uc, .int .i64 r.says] rfl rfl HC5.out (by simp [Value.oneCell']) (by unfold maxLen; omega) (by omega) (by simp; omega) ?_; intro v' w5 hown5 hgrow _)
        have hb45 : Below (w.heap.size + 1 + 1) wr w5 := ((hb4.mono (by omega)).alloc (by omega) _).grown hgrow (by simp; omega) (fun g hg => own_ge hown.out hg)
        have hbz5 : W4.heap.size < w5.heap.size := by have := hgrow.size; simp at this; omega
        have hnext : flat Rul.cells (offR O 0 (s.rules.take (j + 1))) = flat Rul.cells (offR O 0 (s.rules.take j)) ++ [.slice r.wa r.when_.length r.wc, .int .i64 r.kinds, .int .i64 r.rank, .slice r.ua r.unless_.length r.uc, .int .i64 r.says] := by
          have hl : (s.rules.take j).length = j := by simp; omega
          rw [HTK.out, offR_succ, hl, Nat.zero_add, hbit, ← hoff.out]
          simp [flat]
        go_wp2
        refine ⟨⟨j + 1, by omega, by simp, by show World.ownsRow _ _ _ _ _ _ _; rw [hnext]; exact hown5, hbr.out.trans (hb45.mono (by omega)), by omega, q0.out.below hb45 (by omega), q1.out.below hb45 (by omega)⟩, by simp [intOf]; omega⟩
      | true =>
        rw [hbit] at z0
        obtain ⟨W4, hW4⟩ : ∃ W, W = wr.alloc (.cells #[.slice r.wa r.when_.length r.wc, .int .i64 0, .int .i64 r.rank, .slice r.ua r.unless_.length r.uc, .int .i64 r.says] 82) := ⟨_, rfl⟩
        have hb4 : Below wr.heap.size wr W4 := by rw [hW4]; first | exact (Below.refl _ _).alloc (Nat.le_refl _) _ | exact ((Below.refl _ _).alloc (Nat.le_refl _) _).setCell (Nat.le_refl _) _
        have hz4 : W4.heap.size = wr.heap.size + 1 := by rw [hW4]; simp
        have HC5 : Hid (∀ (i : Nat) (u : Value), [Value.slice r.wa r.when_.length r.wc, .int .i64 0, .int .i64 r.rank, .slice r.ua r.unless_.length r.uc, .int .i64 r.says][i]? = some u → (W4.alloc (.cells #[.slice r.wa r.when_.length r.wc, .int .i64 0, .int .i64 r.rank, .slice r.ua r.unless_.length r.uc, .int .i64 r.says] 82)).cell? ((⟨wr.heap.size + 1, 0, none⟩ : Addr).add i) = some u) := (fun i u hu => by
          rw [← hz4, Go.WideShapes.add_plain, Nat.zero_add, (Blk.new W4 _ _).cell i, ← hu]; simp)
        have how := hown.out.kept (grown_of_below hb4) (by cases hv : u5.ownBlock <;> simp)
        have HOW := Lib.hid how
        have HW4 := Lib.hid hW4
        have hoff : Hid ((r.off true).cells = [Value.slice r.wa r.when_.length r.wc, .int .i64 0, .int .i64 r.rank, .slice r.ua r.unless_.length r.uc, .int .i64 r.says]) := (rfl : (r.off true).cells = _)
        clear hW4 how
        go_wp2_with (at_builtin; rw [← HW4.out]; refine wpList_append_own _ rfl _ _ 22 rfl (w.heap.size + 1 + 1) 82 i1 (.agg #[.slice none 0 0, .int .i64 0, .int .i64 0, .slice none 0 0, .int .i64 0]) 5 72 uRules hi1 iy0 iy1 iy2 rfl (by decide) _ _ _ rfl (HOW.out.alloc _) ⟨wr.heap.size + 1, 0, none⟩ 1 1 [.slice r.wa r.when_.length r.wc, .int .i64 0, .int .i64 r.rank, .slice r.ua r.unless_.length r.uc, .int .i64 r.says] rfl rfl HC5.out (by simp [Value.oneCell']) (by unfold maxLen; omega) (by omega) (by simp; omega) ?_; intro v' w5 hown5 hgrow _)
        have hb45 : Below (w.heap.size + 1 + 1) wr w5 := ((hb4.mono (by omega)).alloc (by omega) _).grown hgrow (by simp; omega) (fun g hg => own_ge hown.out hg)
        have hbz5 : W4.heap.size < w5.heap.size := by have := hgrow.size; simp at this; omega
        have hnext : flat Rul.cells (offR O 0 (s.rules.take (j + 1))) = flat Rul.cells (offR O 0 (s.rules.take j)) ++ [.slice r.wa r.when_.length r.wc, .int .i64 0, .int .i64 r.rank, .slice r.ua r.unless_.length r.uc, .int .i64 r.says] := by
          have hl : (s.rules.take j).length = j := by simp; omega
          rw [HTK.out, offR_succ, hl, Nat.zero_add, hbit, ← hoff.out]
          simp [flat]
        go_wp2
        refine ⟨⟨j + 1, by omega, by simp, by show World.ownsRow _ _ _ _ _ _ _; rw [hnext]; exact hown5, hbr.out.trans (hb45.mono (by omega)), by omega, q0.out.below hb45 (by omega), q1.out.below hb45 (by omega)⟩, by simp [intOf]; omega⟩
    · obtain rfl : j = s.rules.length := by omega
      obtain ⟨A, c, rfl, hs⟩ := Sl.of_own (f := Rul.cells) (l := offR O 0 (s.rules.take s.rules.length)) (by
        have h := hown.out
        have e : (offR O 0 (s.rules.take s.rules.length)).length = s.rules.length := by rw [List.take_length, offR_len]
        rw [e]; exact h)
      have e : (offR O 0 (s.rules.take s.rules.length)).length = s.rules.length := by rw [List.take_length, offR_len]
      rw [e] at hown ⊢
      rw [List.take_length] at hs hown
      have HS := Lib.hid hs
      clear hs e
      have t0 := q0.out.cell 0
      have t1 := q0.out.cell 1
      have t2 := q0.out.cell 2
      have t3 := q0.out.cell 3
      have f4 := q0.out.free 4
      have y0 := q1.out.free 0
      have y1 := q1.out.free 1
      have y2 := q1.out.free 2
      have y3 := q1.out.free 3
      have y4 := q1.out.free 4
      have x0 := q1.out.cell 0
      have x1 := q1.out.cell 1
      have x2 := q1.out.cell 2
      have x3 := q1.out.cell 3
      have x4 := q1.out.cell 4
      simp at t0 t1 t2 t3 x0 x1 x2 x3 x4
      go_wp2
      refine gen_w (fun W => Blk W (w.heap.size + 1) #[.int .i64 s.places, .int .i64 s.signs, .int .i64 s.kinds, .int .i64 s.answers, .slice A s.rules.length c] 24 ∧ W.ownsRow (w.heap.size + 1 + 1) 82 5 (Value.slice A s.rules.length c) s.rules.length (flat Rul.cells (offR O 0 s.rules)) ∧ Below w.heap.size w W) ?_ ?_
      · refine ⟨((((((q1.out.far ⟨w.heap.size, 4, none⟩ (by simp) (Value.slice A s.rules.length c)).set 0 (.int .i64 s.places)).set 1 (.int .i64 s.signs)).set 2 (.int .i64 s.kinds)).set 3 (.int .i64 s.answers)).set 4 (Value.slice A s.rules.length c)), own_put (own_put (own_put (own_put (own_put (own_put hown.out (k := w.heap.size) (by omega) 4 (Value.slice A s.rules.length c)) (k := w.heap.size + 1) (by omega) 0 (.int .i64 s.places)) (k := w.heap.size + 1) (by omega) 1 (.int .i64 s.signs)) (k := w.heap.size + 1) (by omega) 2 (.int .i64 s.kinds)) (k := w.heap.size + 1) (by omega) 3 (.int .i64 s.answers)) (k := w.heap.size + 1) (by omega) 4 (Value.slice A s.rules.length c), ?_⟩
        exact (((((hbr.out.setCell (by simp) _).setCell (by simp) _).setCell (by simp) _).setCell (by simp) _).setCell (by simp) _).setCell (by simp) _
      clear hown hbr q0 q1 hzr HS
      rintro Wf ⟨gz, how, hbf⟩
      have e0 := gz.cell 0
      have e1 := gz.cell 1
      have e2 := gz.cell 2
      have e3 := gz.cell 3
      have e4 := gz.cell 4
      simp at e0 e1 e2 e3 e4
      refine bodyPost_ret (v := .agg #[.int .i64 s.places, .int .i64 s.signs, .int .i64 s.kinds, .int .i64 s.answers, .slice A s.rules.length c]) (by simp [results, Try.results95, go_sem, e0, e1, e2, e3, e4]) rfl ?_
      have hlen : (offR O 0 s.rules).length = s.rules.length := offR_len _ _ _
      obtain ⟨A', c', hv', hs'⟩ := Sl.of_own (f := Rul.cells) (l := offR O 0 s.rules) (by rw [hlen]; exact how)
      have hv2 : A = A' ∧ c = c' := by injection hv' with h1 h2 h3; exact ⟨h1, h3⟩
      obtain ⟨rfl, rfl⟩ := hv2
      refine ⟨A, c, by rw [show (s.offs O A c).rv = .slice A s.rules.length c by show Value.slice A (offR O 0 s.rules).length c = _; rw [hlen]]; rfl, ⟨hs', by show (offR O 0 s.rules).length ≤ _; rw [hlen]; omega, fun r hr => ?_⟩, hbf⟩
      obtain ⟨i, hi, rfl⟩ := List.mem_iff_getElem.1 hr
      have h1 : (s.offs O A c).rules[i]? = some (s.offs O A c).rules[i] := List.getElem?_eq_getElem hi
      have hi' : i < s.rules.length := by rw [offs_len] at hi; exact hi
      rw [offs_get, List.getElem?_eq_getElem hi'] at h1
      simp only [Option.map_some, Option.some.injEq] at h1
      rw [← h1]
      exact off_reads (((HRR.out.below hbf).2.2 _ (List.getElem_mem hi')).more hbf.size)
theorem rdf_any (s : Sch) (hv : schB s = true) (O : Nat) (A : Option Addr) (c : Nat) (k : Nat) (hk : (k : Int) < s.kinds) (w : World) (ha : s.reads w w.heap.size) (hb : (s.offs O A c).reads w w.heap.size) :
    Calls Try.prog 35 #[scv s s.rv, scv (s.offs O A c) (s.offs O A c).rv, .int .i64 (k : Int)] w fun e w' => e = .returned (.int .i64 (firstN (dfR s O k) (chartsC s))) ∧ Below w.heap.size w w' := by
  have h := rdiffer_any s (s.offs O A c) (valid_of ha.oks hv) (valid_of (offs_oks ha.oks) (schB_offs hv)) (v3_of ha.oks hv) (v3_of (offs_oks ha.oks) (schB_offs hv)) (k : Int) w ha hb rfl (by omega) hk hk
  have e : (fun (j : Nat) => ansN s 0 (k : Int) (chartL s j) != ansN (s.offs O A c) 0 (k : Int) (chartL s j)) = dfR s O k := by funext j; simp only [dfR, ansN_offs]
  rw [e] at h
  exact h
set_option maxRecDepth 100000 in
set_option maxHeartbeats 4000000 in
theorem rsame_any (s : Sch) (hv : schB s = true) (O : Nat) (Z : Option Addr) (z : Nat) (w : World) (hr : s.reads w w.heap.size) (hZ : Sl boolCell 1 w w.heap.size Z (bitsB O s.rules.length)) :
    Calls Try.prog 81 #[scv s s.rv, .slice Z s.rules.length z] w fun e w' => e = .returned (.bool (sameB s O)) ∧ Below w.heap.size w w' := by
  have V := valid_of hr.oks hv
  have hlen := V.len
  have hkk := V.kinds
  have HRR := Lib.hid hr; have HZ := Lib.hid hZ; have HV := Lib.hid hv
  clear hr hZ V hv
  go_enter Try.func81, Try.ntmps81
  go_wp2
  refine wp_world (fun W => Below w.heap.size w W ∧ w.heap.size < W.heap.size ∧ Blk W w.heap.size #[.int .i64 s.places, .int .i64 s.signs, .int .i64 s.kinds, .int .i64 s.answers, s.rv] 24) ⟨(Below.refl _ _).alloc (Nat.le_refl _) _, by simp, Blk.at_ rfl⟩ ?_
  rintro w0 ⟨hbw, hz0, g0⟩
  go_loopw [5] (fun i wr => ∃ k : Nat, (k : Int) ≤ s.kinds ∧ i = .int .i64 k ∧ Below w0.heap.size w0 wr ∧ Hid (∀ j, j < k → firstN (dfR s O j) (chartsC s) < 0)) (fun i _ => (s.kinds - intOf i).toNat)
  case atStart => exact ⟨0, by omega, rfl, Below.refl _ _, fun j hj => by omega⟩
  case round =>
    obtain ⟨k, hk, rfl, hb, HN⟩ := hrel
    have hsz := hb.size
    have hbr : Below w.heap.size w wr := hbw.trans (hb.mono (by omega))
    have g0r := g0.below hb (by omega)
    have gc := g0r.cell
    have s0 := gc 0; have s1 := gc 1; have s2 := gc 2; have s3 := gc 3; have s4 := gc 4
    simp at s0 s1 s2 s3 s4
    have l0 : w.heap.size < wr.heap.size := by omega
    clear gc
    by_cases hlt : (k : Int) < s.kinds
    · obtain ⟨F, hF⟩ : ∃ F, firstN (dfR s O k) (chartsC s) = F := ⟨_, rfl⟩
      have HF := Lib.hid hF
      clear hF
      by_cases h0 : F < 0
      · have d0 : decide (0 ≤ F) = false := by simp; omega
        go_wp2
        go_region_held (fun W' => W'.cell? ⟨w.heap.size, 0, none⟩ = some (.int .i64 s.places) ∧ W'.cell? ⟨w.heap.size, 1, none⟩ = some (.int .i64 s.signs) ∧ W'.cell? ⟨w.heap.size, 2, none⟩ = some (.int .i64 s.kinds) ∧ W'.cell? ⟨w.heap.size, 3, none⟩ = some (.int .i64 s.answers) ∧ W'.cell? ⟨w.heap.size, 4, none⟩ = some s.rv) (exact ⟨s0, s1, s2, s3, s4⟩)
          (first | (go_at_call 95; refine (rwithout_any s O Z z _ ((HRR.out.below (Below.drew hbr)).more (Below.drew hbr).size) (by omega) ((HZ.out.below (Below.drew hbr)).more (Below.drew hbr).size)).mono ?_; rintro _ Wa ⟨A, c, rfl, hA, hba⟩; have hxa : Below wr.heap.size wr Wa := bl2 (Below.drew (Below.refl _ _)) hba; have hwa : Below w.heap.size w Wa := bl2 hbr hxa; have HA := Lib.hid hA; clear hA; have gc := (g0r.below hxa l0).cell; have s0 := gc 0; have s1 := gc 1; have s2 := gc 2; have s3 := gc 3; have s4 := gc 4; simp at s0 s1 s2 s3 s4) |
           (go_at_call 35; refine (rdf_any s HV.out O A c k hlt _ ((HRR.out.below hwa).more hwa.size) HA.out).mono ?_; rw [HF.out]; rintro _ Wb ⟨rfl, hbb⟩; have hxb : Below wr.heap.size wr Wb := bl2 hxa hbb; have gc := (g0r.below hxb l0).cell; have s0 := gc 0; have s1 := gc 1; have s2 := gc 2; have s3 := gc 3; have s4 := gc 4; simp at s0 s1 s2 s3 s4))
        all_goals (
          go_wp2
          go_roundw
          case rel => exact ⟨k + 1, by omega, by go_num, hb.trans (hxb.mono hsz), upto_succ HN (by rw [HF.out]; exact h0)⟩
          case measure => simp [intOf]; omega)
      · have d0 : decide (0 ≤ F) = true := by simp; omega
        have hno : Hid (sameB s O = false) := (by
          rw [Bool.eq_false_iff]; intro h
          have := sameB_firstN.1 h k hlt
          rw [HF.out] at this; exact h0 this : sameB s O = false)
        go_wp2
        go_region_held (fun W' => W'.cell? ⟨w.heap.size, 0, none⟩ = some (.int .i64 s.places) ∧ W'.cell? ⟨w.heap.size, 1, none⟩ = some (.int .i64 s.signs) ∧ W'.cell? ⟨w.heap.size, 2, none⟩ = some (.int .i64 s.kinds) ∧ W'.cell? ⟨w.heap.size, 3, none⟩ = some (.int .i64 s.answers) ∧ W'.cell? ⟨w.heap.size, 4, none⟩ = some s.rv) (exact ⟨s0, s1, s2, s3, s4⟩)
          (first | (go_at_call 95; refine (rwithout_any s O Z z _ ((HRR.out.below (Below.drew hbr)).more (Below.drew hbr).size) (by omega) ((HZ.out.below (Below.drew hbr)).more (Below.drew hbr).size)).mono ?_; rintro _ Wa ⟨A, c, rfl, hA, hba⟩; have hxa : Below wr.heap.size wr Wa := bl2 (Below.drew (Below.refl _ _)) hba; have hwa : Below w.heap.size w Wa := bl2 hbr hxa; have HA := Lib.hid hA; clear hA; have gc := (g0r.below hxa l0).cell; have s0 := gc 0; have s1 := gc 1; have s2 := gc 2; have s3 := gc 3; have s4 := gc 4; simp at s0 s1 s2 s3 s4) |
           (go_at_call 35; refine (rdf_any s HV.out O A c k hlt _ ((HRR.out.below hwa).more hwa.size) HA.out).mono ?_; rw [HF.out]; rintro _ Wb ⟨rfl, hbb⟩; have hxb : Below wr.heap.size wr Wb := bl2 hxa hbb; have gc := (g0r.below hxb l0).cell; have s0 := gc 0; have s1 := gc 1; have s2 := gc 2; have s3 := gc 3; have s4 := gc 4; simp at s0 s1 s2 s3 s4))
        all_goals (
          go_wp2
          go_ret
          exact ⟨ret_bool hno.out.symm, bl2 hbr hxb⟩)
    · have hyes : Hid (sameB s O = true) := (sameB_firstN.2 fun j hj => HN.out j (by omega) : sameB s O = true)
      go_wp2
      go_ret
      exact ⟨ret_bool hyes.out.symm, hbr⟩
end Go.Proofs.Ytidlmbajpbbilaa

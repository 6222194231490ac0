/- The reference: Idle. -/
import Derived.Test.YtidlmbajpbbilaaRgH
namespace Go.Proofs.Ytidlmbajpbbilaa
open Go.RowKit

theorem sl_of_bools {W : World} {b : Nat} {l : List Bool} (h : Blk W b (l.map Value.bool).toArray 4) : Sl boolCell 1 W W.heap.size (some ⟨b, 0, none⟩) l := by
  have hf : flat boolCell l = l.map Value.bool := flat_one _ l
  refine ⟨by rw [hf]; simp, fun _ => ⟨b, 0, rfl, h.lt, fun j u hu => ?_⟩⟩
  rw [Nat.zero_add, h.cell, List.getElem?_toArray, ← hf]; exact hu
theorem own_base {W : World} {b b' e s n : Nat} {v : Value} {xs : List Value} (h : W.ownsRow b e s v n xs) (hb : b' ≤ b) : W.ownsRow b' e s v n xs := by
  refine ⟨h.1, ?_⟩
  rcases h.2 with h2 | ⟨g, cap, cur, e1, h3, h4⟩
  · exact .inl h2
  · exact .inr ⟨g, cap, cur, e1, Nat.le_trans hb h3, h4⟩
theorem bools_set {O n i : Nat} {b : Bool} : (((bitsB O n).map Value.bool).toArray.setIfInBounds i (.bool b)) = (((bitsB O n).set i b).map Value.bool).toArray := by
  rw [List.setIfInBounds_toArray, ← List.map_set]
set_option maxRecDepth 100000 in
set_option maxHeartbeats 4000000 in
theorem ridle_any (s : Sch) (hv : schB s = true) (w : World) (hr : s.reads w w.heap.size) : Calls Try.prog 47 #[scv s s.rv] w (RetOwn 3 intCell 1 (idleL s s.rules.length) w) := by
  obtain ⟨i0, hi, iz0, iz1, iz2⟩ := info_parts infoBool
  obtain ⟨i1, hi1, iy0, iy1, iy2⟩ := info_parts infoInt
  have V := valid_of hr.oks hv
  have hlen := V.len
  have HRR := Lib.hid hr; have HV := Lib.hid hv
  clear hr V hv
  go_enter Try.func47, Try.ntmps47
  go_wp2
  refine wp_world (fun W => Below w.heap.size w W ∧ w.heap.size + 1 < W.heap.size ∧ Blk W w.heap.size #[.int .i64 s.places, .int .i64 s.signs, .int .i64 s.kinds, .int .i64 s.answers, s.rv] 24 ∧
    W.ownsRow (w.heap.size + 1) 3 1 (.slice (some ⟨w.heap.size + 1, 0, none⟩) 0 0) 0 []) ?_ ?_
  · refine ⟨by (repeat (first | exact Below.refl _ _ | assumption | (refine Below.alloc ?_ (by first | omega | (simp; omega) | (simp; done)) _) | (refine Below.setCell ?_ (by first | omega | (simp; omega) | (simp; done)) _) | (refine Below.drew ?_) | (refine belowN ?_ _) | (refine Below.trans ?_ (Below.mono ‹Below _ _ _› (by first | omega | (simp; omega) | (simp; done)))))), by simp, (Blk.at_ rfl).alloc _, ?_⟩
    have := World.ownsRow_made (e := 3) (size := 1) (w.alloc (.cells #[.int .i64 s.places, .int .i64 s.signs, .int .i64 s.kinds, .int .i64 s.answers, s.rv] 24)) #[] 0 (base := w.heap.size + 1) (by simp) (by simp) (by simp)
    simpa using this
  rintro w0 ⟨hbw, hz0, g0, hown0⟩
  have HO0 := Lib.hid hown0
  go_loopw [3, 4] (fun v i wr => ∃ j : Nat, j ≤ s.rules.length ∧ i = .int .i64 j ∧ Hid (wr.ownsRow (w.heap.size + 1) 3 1 v (idleL s j).length (flat intCell (idleL s j))) ∧
    Hid (Below w.heap.size w wr) ∧ w.heap.size + 1 < wr.heap.size ∧ Hid (Blk wr w.heap.size #[.int .i64 s.places, .int .i64 s.signs, .int .i64 s.kinds, .int .i64 s.answers, s.rv] 24)) (fun _ i _ => s.rules.length - (intOf i).toNat)
  case atStart => exact ⟨0, by omega, rfl, HO0, hbw, hz0, g0⟩
  case round =>
    obtain ⟨j, hj, rfl, hown, hbr, hzr, q0⟩ := hrel
    have s4 := q0.out.cell 4
    simp at s4
    by_cases hlt : j < s.rules.length
    · go_wp2_with (at_make; refine wpList_make_blk _ rfl _ _ 97 rfl 4 i0 (.bool false) uBools hi iz0 iz1 rfl .i64 .i64 _ _ s.rules.length rfl rfl rfl rfl (by rw [iz2]; omega) (by unfold maxLen; omega) ?_; intro W1 gS bS)
      have gS' : Blk W1 wr.heap.size ((bitsB 0 s.rules.length).map Value.bool).toArray 4 := by rw [bitsB_zero, List.map_replicate]; exact gS
      have hz1 := gS'.lt
      have f0 := gS'.free j
      have c0 : W1.cell? ⟨wr.heap.size, j, none⟩ = some (.bool false) := by rw [gS'.cell]; simp [bitsB, hlt]
      have g1 := q0.out.below bS (by omega)
      have t0 := g1.cell 0; have t1 := g1.cell 1; have t2 := g1.cell 2; have t3 := g1.cell 3; have t4 := g1.cell 4
      simp at t0 t1 t2 t3 t4
      have hj0 : (0 : Int) ≤ (j : Int) := by omega
      have hj1 : (j : Int) < (s.rules.length : Int) := by omega
      have hne : wr.heap.size ≠ w.heap.size := by omega
      obtain ⟨W2, hW2⟩ : ∃ W, W = W1.setCell ⟨wr.heap.size, j, none⟩ (.bool true) := ⟨_, rfl⟩
      have gB : Blk W2 wr.heap.size ((bitsB (2 ^ j) s.rules.length).map Value.bool).toArray 4 := by
        have h := gS'.set j (.bool true)
        rw [bools_set, bitsB_set hlt, Nat.zero_or] at h
        rw [hW2]; exact h
      have hb2 : Below wr.heap.size wr W2 := by rw [hW2]; exact bS.setCell (Nat.le_refl _) _
      have hwb : Below w.heap.size w W2 := bl2 hbr.out hb2
      have HSM := Lib.hid (rsame_any s HV.out (2 ^ j) (some ⟨wr.heap.size, 0, none⟩) s.rules.length W2 ((HRR.out.below hwb).more hwb.size) (sl_of_bools gB))
      have HW2 := Lib.hid hW2
      clear hW2 gB gS gS' g1
      cases hs : sameB s (2 ^ j) with
      | false =>
        rw [hs] at HSM
        refine Lib.hid ?_
        go_wp2_with (go_at_call 81; rw [← HW2.out]; refine HSM.out.mono ?_; rintro _ W3 ⟨rfl, hb3⟩)
        go_roundw
        case rel => exact ⟨j + 1, by omega, by go_num, by
          have e : idleL s (j + 1) = idleL s j := by rw [idleL_succ, hs]; simp
          rw [e]
          exact hown.out.kept (grown_of_below (bl2 hb2 hb3)) (by cases hv : u3.ownBlock <;> simp), bl2 hwb hb3, by have := hb2.size; have := hb3.size; omega, q0.out.below (bl2 hb2 hb3) (by omega)⟩
        case measure => simp [intOf]; omega
      | true =>
        rw [hs] at HSM
        have hil := idleL_len s j
        refine Lib.hid ?_
        go_wp2_with (first | (go_at_call 81; rw [← HW2.out]; refine HSM.out.mono ?_; rintro _ Wc ⟨rfl, hb3⟩; have hbc := bl2 hb2 hb3; have how := hown.out.kept (grown_of_below hbc) (by cases hv : u3.ownBlock <;> simp); have HOW := Lib.hid how; clear how; have hzc := hbc.size; have HC5 : Hid (∀ (i : Nat) (u : Value), [Value.int .i64 (j : Int)][i]? = some u → (Wc.alloc (.cells #[.int .i64 (j : Int)] 3)).cell? ((⟨Wc.heap.size, 0, none⟩ : Addr).add i) = some u) := (fun i u hu => (by rw [Go.WideShapes.add_plain, Nat.zero_add, (Blk.new Wc _ _).cell i, ← hu]; simp))) |
          (at_builtin; refine wpList_append_own _ rfl _ _ 28 rfl (w.heap.size + 1) 3 i1 (.int .i64 0) 1 8 uInts hi1 iy0 iy1 iy2 rfl (by decide) _ _ _ rfl (HOW.out.alloc _) ⟨Wc.heap.size, 0, none⟩ 1 1 [.int .i64 (j : Int)] rfl rfl HC5.out (by simp [Value.oneCell']) (by unfold maxLen; omega) (by omega) (by simp; omega) ?_; intro v' w5 hown5 hgrow _))
        have hb45 : Below (w.heap.size + 1) wr w5 := ((hbc.mono (by omega)).alloc (by omega) _).grown hgrow (by simp; omega) (fun g hg => own_ge hown.out hg)
        have hbz5 : Wc.heap.size < w5.heap.size := by have := hgrow.size; simp at this; omega
        go_wp2
        go_roundw
        case rel => exact ⟨j + 1, by omega, by go_num, by
          have e : idleL s (j + 1) = idleL s j ++ [(j : Int)] := by rw [idleL_succ, hs]; simp
          rw [e]
          show World.ownsRow _ _ _ _ _ _ _
          simpa [flat] using hown5, hbr.out.trans (hb45.mono (by omega)), by omega, q0.out.below hb45 (by omega)⟩
        case measure => simp [intOf]; omega
    · obtain rfl : j = s.rules.length := by omega
      go_wp2
      go_ret
      exact ⟨_, rfl, own_base hown.out (by omega), hbr.out⟩
end Go.Proofs.Ytidlmbajpbbilaa

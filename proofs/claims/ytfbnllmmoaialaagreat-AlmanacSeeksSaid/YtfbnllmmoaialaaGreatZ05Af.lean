/- sort.Search; almanac: months, solar. -/
import Derived.Test.YtfbnllmmoaialaaGreatZ04Ae
namespace Go.Proofs.YtfbnllmmoaialaaGreat
open Go.RowKit

set_option maxRecDepth 100000 in
set_option maxHeartbeats 4000000 in
theorem search_any (g : Nat) (cap : Array Value) (n : Nat) (p : Nat → Bool) (w : World) (hg : Ent g) (hn : n ≤ 1000000) (hp : ∀ i j, i ≤ j → j < n → p i = true → p j = true)
    (hf : ∀ h (_ : h < n) W, Below w.heap.size w W → Calls Tryz.prog g (#[.int .i64 h] ++ cap) W fun e W' => e = .returned (.bool (p h)) ∧ Below W.heap.size W W') :
    Calls Tryz.prog 63 #[.int .i64 n, .func (.func g) #[] cap] w fun e w' => e = .returned (.int .i64 ((List.range n).findIdx p)) ∧ Below w.heap.size w w' := by
  unfold Ent at hg
  have HF := Lib.hid hf; have HP := Lib.hid hp
  clear hf hp
  go_enter Tryz.func63, Tryz.ntmps63
  go_wp2
  go_loopw [5, 6, 7] (fun i j _ wr => ∃ a b : Nat, a ≤ b ∧ b ≤ n ∧ i = .int .i64 a ∧ j = .int .i64 b ∧ Below w.heap.size w wr ∧ Hid (∀ k, k < a → p k = false) ∧ Hid (b < n → p b = true)) (fun i j _ _ => ((intOf j) - (intOf i)).toNat)
  case atStart => exact ⟨0, n, by omega, by omega, rfl, rfl, Below.refl _ _, (fun k hk => by omega : ∀ k, k < 0 → p k = false), (fun h => by omega : n < n → p n = true)⟩
  case round =>
    obtain ⟨a, b, hab, hbn, rfl, rfl, hb, H1, H2⟩ := hrel
    by_cases hlt : a < b
    · have hh : (a + b) / 2 < n := by omega
      have HC := Lib.hid (HF.out ((a + b) / 2) hh wr hb)
      obtain ⟨h, he⟩ : ∃ h, h = (a + b) / 2 := ⟨_, rfl⟩
      have v1 : ((a : Int) + (b : Int)) / 2 = (h : Int) := by rw [he]; omega
      rw [← he] at HC hh
      have hha : a ≤ h := by omega
      have hhb : h < b := by omega
      obtain ⟨v, hv⟩ : ∃ v, v = p h := ⟨_, rfl⟩
      rw [← hv] at HC
      have HV := Lib.hid hv
      clear hv he
      have lt' : decide ((a : Int) < (b : Int)) = true := by simp; omega
      cases v with
      | true =>
        go_wp2_with fail
        refine HC.out.mono ?_
        rintro _ w1 ⟨rfl, hb1⟩
        go_wp2
        go_roundw
        case rel => exact ⟨a, h, hha, by omega, rfl, rfl, bl2 hb hb1, H1, (fun _ => HV.out.symm : h < n → p h = true)⟩
        case measure => simp [intOf]; omega
      | false =>
        go_wp2_with fail
        refine HC.out.mono ?_
        rintro _ w1 ⟨rfl, hb1⟩
        go_wp2
        go_roundw
        case rel => exact ⟨h + 1, b, by omega, hbn, by go_num, rfl, bl2 hb hb1, (fun k hk => by
          cases hpk : p k with
          | false => rfl
          | true => exact absurd (HP.out k h (by omega) hh hpk) (by rw [← HV.out]; decide) : ∀ k, k < h + 1 → p k = false), H2⟩
        case measure => simp [intOf]; omega
    · obtain rfl : a = b := by omega
      have HT : Hid ((List.range n).findIdx p = a) := (findIdx_is hbn H1.out H2.out : _ = a)
      go_wp2
      go_ret
      exact ⟨by rw [HT.out]; rfl, hb⟩
/-! months -/
theorem begI_nn {r : Sol} (ok : SolOk r) {y : Int} (y0 : 0 ≤ y) (y1 : y ≤ 10000) : 0 ≤ begI r y ∧ begI r y ≤ 3660000 := by
  obtain ⟨y, rfl⟩ := Int.eq_ofNat_of_zero_le y0
  have := begI_bd ok y; omega
set_option maxRecDepth 100000 in
set_option maxHeartbeats 4000000 in
theorem months_any (e b u y : Int) (w : World) (ok : SolOk ⟨e, b, u⟩) (y0 : 0 ≤ y) (y1 : y ≤ 9999) : Calls Tryz.prog 66 #[.agg #[.int .i64 e, .int .i64 b, .int .i64 u], .int .i64 y] w fun en w' => en = .returned (.agg ((monL (extraN ⟨e, b, u⟩ y)).map (Value.int .i64)).toArray) ∧ Below w.heap.size w w' := by
  have HB1 := Lib.hid (fun W => begins_any e b u y W ok y0 (by omega))
  have HB2 := Lib.hid (fun W => begins_any e b u (y + 1) W ok (by omega) (by omega))
  obtain ⟨b1, b2⟩ := begI_nn ok y0 (by omega)
  obtain ⟨b3, b4⟩ := begI_nn ok (y := y + 1) (by omega) (by omega)
  have HT : Hid (extraN ⟨e, b, u⟩ y = begI ⟨e, b, u⟩ (y + 1) - begI ⟨e, b, u⟩ y - 365) := (rfl : extraN _ _ = _)
  obtain ⟨M1, hM1⟩ : ∃ M, M = begI ⟨e, b, u⟩ y := ⟨_, rfl⟩
  obtain ⟨M2, hM2⟩ : ∃ M, M = begI ⟨e, b, u⟩ (y + 1) := ⟨_, rfl⟩
  rw [← hM1] at HB1 HT b1 b2
  rw [← hM2] at HB2 HT b3 b4
  have v0 : IntKind.i64.wrap (y + 1) = y + 1 := IntWalk.i64_in _ ⟨by omega, by omega⟩
  have v1 : IntKind.i64.wrap (M2 - M1) = M2 - M1 := IntWalk.i64_in _ ⟨by omega, by omega⟩
  have v2 : IntKind.i64.wrap (M2 - M1 - 365) = M2 - M1 - 365 := IntWalk.i64_in _ ⟨by omega, by omega⟩
  have v3 : IntKind.i64.wrap (28 + (M2 - M1 - 365)) = 28 + (M2 - M1 - 365) := IntWalk.i64_in _ ⟨by omega, by omega⟩
  clear hM1 hM2 ok
  go_enter Tryz.func66, Tryz.ntmps66
  go_upto_region 2 with fail
  refine gen_w (fun W => Blk W w.heap.size #[.int .i64 e, .int .i64 b, .int .i64 u] 24 ∧ Blk W (w.heap.size + 1) #[.int .i64 0, .int .i64 0, .int .i64 0, .int .i64 0, .int .i64 0, .int .i64 0, .int .i64 0, .int .i64 0, .int .i64 0, .int .i64 0, .int .i64 0, .int .i64 0] 104 ∧ Blk W (w.heap.size + 1 + 1) #[.int .i64 31, .int .i64 28, .int .i64 31, .int .i64 30, .int .i64 31, .int .i64 30, .int .i64 31, .int .i64 31, .int .i64 30, .int .i64 31, .int .i64 30, .int .i64 31] 104 ∧ Below w.heap.size w W) ⟨((Blk.at_ rfl).alloc _).alloc _, (Blk.at_ (by simp)).alloc _, Blk.at_ (by simp), by (repeat (first | exact Below.refl _ _ | assumption | (refine Below.alloc ?_ (by first | omega | (simp; omega) | (simp; done)) _) | (refine Below.setCell ?_ (by first | omega | (simp; omega) | (simp; done)) _) | (refine Below.drew ?_) | (refine belowN ?_ _) | (refine Below.trans ?_ (Below.mono ‹Below _ _ _› (by first | omega | (simp; omega) | (simp; done))))))⟩ ?_
  rintro V ⟨gb, ga, gl, hw⟩
  have hS : ∀ W, Below V.heap.size V W → W.cell? ⟨w.heap.size, 0, none⟩ = some (.int .i64 e) ∧ W.cell? ⟨w.heap.size, 1, none⟩ = some (.int .i64 b) ∧ W.cell? ⟨w.heap.size, 2, none⟩ = some (.int .i64 u) ∧ W.cell? ⟨w.heap.size + 1 + 1, 1, none⟩ = some (.int .i64 28) := fun W hW => by
    have g := gb.below hW gb.lt
    have c0 := g.cell 0; have c1 := g.cell 1; have c2 := g.cell 2
    have c3 := (gl.below hW gl.lt).cell 1
    simp at c0 c1 c2 c3
    exact ⟨c0, c1, c2, c3⟩
  refine' wp_region_plan 13 [12, 11, 10, 9, 8, 7, 6, 5, 4, 3, 2, 1, 0] [.eff, .eff, .eff, .eff, .eff, .eff, .eff, .eff, .eff, .eff, .eff, .eff, .eff, .last] [Det _, Det _, Det _, Det _, Det _, Det (.int .i64 M2), Det _, Det _, Det (.int .i64 M1), Det _, Det _, Det _, Det _, noF] (by rfl) [(12, 19), (11, 18)] [(12, 19), (11, 18), (10, 17), (9, 16), (8, 15), (7, 14), (6, 13), (5, 12), (4, 11), (3, 10), (2, 9), (1, 8), (0, 7)] (by kernel_rfl) (by kernel_rfl) (by kernel_rfl) (by kernel_rfl) (by kernel_rfl) (by kernel_rfl) (by kernel_rfl) (by kernel_rfl) (by kernel_rfl) rfl ?hp ?hend ?hst
  case hp =>
    refine And.intro ⟨[], by kernel_rfl, fun xs W hW hf K hK => opV_free rfl ?_⟩ ?_
    focus (have hs := hS W hW; (try simp only [factsL, pickF, Det, and_true] at hf); (try simp only [putL, Act.put, List.setIfInBounds_toArray, List.set_cons_zero, List.set_cons_succ]); (try simp only [hf]); go_simp; refine hK.out _ _ (Below.refl _ _) ?_; unfold Det; rfl)
    refine And.intro ⟨[(0, 7)], by kernel_rfl, fun xs W hW hf K hK => opV_free rfl ?_⟩ ?_
    focus (have hs := hS W hW; (try simp only [factsL, pickF, Det, and_true] at hf); (try simp only [putL, Act.put, List.setIfInBounds_toArray, List.set_cons_zero, List.set_cons_succ]); (try simp only [hf]); go_simp; refine hK.out _ _ (Below.refl _ _) ?_; unfold Det; rfl)
    refine And.intro ⟨[], by kernel_rfl, fun xs W hW hf K hK => opV_free rfl ?_⟩ ?_
    focus (have hs := hS W hW; (try simp only [factsL, pickF, Det, and_true] at hf); (try simp only [putL, Act.put, List.setIfInBounds_toArray, List.set_cons_zero, List.set_cons_succ]); (try simp only [hf]); go_simp; refine hK.out _ _ (Below.refl _ _) ?_; unfold Det; rfl)
    refine And.intro ⟨[], by kernel_rfl, fun xs W hW hf K hK => opV_free rfl ?_⟩ ?_
    focus (have hs := hS W hW; (try simp only [factsL, pickF, Det, and_true] at hf); (try simp only [putL, Act.put, List.setIfInBounds_toArray, List.set_cons_zero, List.set_cons_succ]); (try simp only [hf]); go_simp; refine hK.out _ _ (Below.refl _ _) ?_; unfold Det; rfl)
    refine And.intro ⟨[(3, 10)], by kernel_rfl, fun xs W hW hf K hK => opV_free rfl ?_⟩ ?_
    focus (have hs := hS W hW; (try simp only [factsL, pickF, Det, and_true] at hf); (try simp only [putL, Act.put, List.setIfInBounds_toArray, List.set_cons_zero, List.set_cons_succ]); (try simp only [hf]); go_simp; refine hK.out _ _ (Below.refl _ _) ?_; unfold Det; rfl)
    refine And.intro ⟨[(4, 11), (2, 9)], by kernel_rfl, fun xs W hW hf K hK => opV_free rfl ?_⟩ ?_
    focus (simp only [factsL, pickF, Det, and_true] at hf; (try simp only [putL, Act.put, List.setIfInBounds_toArray, List.set_cons_zero, List.set_cons_succ]); (try simp only [hf]); go_simp; refine (HB2.out _).mono ?_; rintro _ w9 ⟨rfl, hbw⟩; exact ⟨_, rfl, hK.out _ _ hbw rfl⟩)
    refine And.intro ⟨[], by kernel_rfl, fun xs W hW hf K hK => opV_free rfl ?_⟩ ?_
    focus (have hs := hS W hW; (try simp only [factsL, pickF, Det, and_true] at hf); (try simp only [putL, Act.put, List.setIfInBounds_toArray, List.set_cons_zero, List.set_cons_succ]); (try simp only [hf]); go_simp; refine hK.out _ _ (Below.refl _ _) ?_; unfold Det; rfl)
    refine And.intro ⟨[], by kernel_rfl, fun xs W hW hf K hK => opV_free rfl ?_⟩ ?_
    focus (have hs := hS W hW; (try simp only [factsL, pickF, Det, and_true] at hf); (try simp only [putL, Act.put, List.setIfInBounds_toArray, List.set_cons_zero, List.set_cons_succ]); (try simp only [hf]); go_simp; refine hK.out _ _ (Below.refl _ _) ?_; unfold Det; rfl)
    refine And.intro ⟨[(7, 14), (6, 13)], by kernel_rfl, fun xs W hW hf K hK => opV_free rfl ?_⟩ ?_
    focus (simp only [factsL, pickF, Det, and_true] at hf; (try simp only [putL, Act.put, List.setIfInBounds_toArray, List.set_cons_zero, List.set_cons_succ]); (try simp only [hf]); go_simp; refine (HB1.out _).mono ?_; rintro _ w9 ⟨rfl, hbw⟩; exact ⟨_, rfl, hK.out _ _ hbw rfl⟩)
    refine And.intro ⟨[(8, 15), (5, 12)], by kernel_rfl, fun xs W hW hf K hK => opV_free rfl ?_⟩ ?_
    focus (have hs := hS W hW; (try simp only [factsL, pickF, Det, and_true] at hf); (try simp only [putL, Act.put, List.setIfInBounds_toArray, List.set_cons_zero, List.set_cons_succ]); (try simp only [hf]); go_simp; refine hK.out _ _ (Below.refl _ _) ?_; unfold Det; rfl)
    refine And.intro ⟨[(9, 16)], by kernel_rfl, fun xs W hW hf K hK => opV_free rfl ?_⟩ ?_
    focus (have hs := hS W hW; (try simp only [factsL, pickF, Det, and_true] at hf); (try simp only [putL, Act.put, List.setIfInBounds_toArray, List.set_cons_zero, List.set_cons_succ]); (try simp only [hf]); go_simp; refine hK.out _ _ (Below.refl _ _) ?_; unfold Det; rfl)
    refine And.intro ⟨[(10, 17), (1, 8)], by kernel_rfl, fun xs W hW hf K hK => opV_free rfl ?_⟩ ?_
    focus (have hs := hS W hW; (try simp only [factsL, pickF, Det, and_true] at hf); (try simp only [putL, Act.put, List.setIfInBounds_toArray, List.set_cons_zero, List.set_cons_succ]); (try simp only [hf]); go_simp; refine hK.out _ _ (Below.refl _ _) ?_; unfold Det; rfl)
    refine And.intro ⟨[], by kernel_rfl, fun xs W hW hf K hK => opV_free rfl ?_⟩ ?_
    focus (have hs := hS W hW; (try simp only [factsL, pickF, Det, and_true] at hf); (try simp only [putL, Act.put, List.setIfInBounds_toArray, List.set_cons_zero, List.set_cons_succ]); (try simp only [hf]); go_simp; refine hK.out _ _ (Below.refl _ _) ?_; unfold Det; rfl)
    trivial
  case hst => exact ⟨det_stays, det_stays, det_stays, det_stays, det_stays, det_stays, det_stays, det_stays, det_stays, det_stays, det_stays, det_stays, det_stays, noF_stays, trivial⟩
  case hend =>
    intro xs W hW hf
    simp only [factsA, Det, noF, Nat.zero_add, Nat.reduceAdd, and_true] at hf
    refine opV_free rfl ?_
    (simp only [putL, Act.put, upd, List.setIfInBounds_toArray, List.set_cons_zero, List.set_cons_succ])
    simp only [hf]
    have gl := gl.below hW gl.lt
    have ga := ga.below hW ga.lt
    have hf1 := gl.free 1
    have gx := gl.set 1 (.int .i64 (28 + (M2 - M1 - 365)))
    go_simp
    clear hf hS
    refine gen_w (fun W2 => Blk W2 (w.heap.size + 1) #[.int .i64 0, .int .i64 0, .int .i64 0, .int .i64 0, .int .i64 0, .int .i64 0, .int .i64 0, .int .i64 0, .int .i64 0, .int .i64 0, .int .i64 0, .int .i64 0] 104 ∧ Blk W2 (w.heap.size + 1 + 1) #[.int .i64 31, .int .i64 (28 + (M2 - M1 - 365)), .int .i64 31, .int .i64 30, .int .i64 31, .int .i64 30, .int .i64 31, .int .i64 31, .int .i64 30, .int .i64 31, .int .i64 30, .int .i64 31] 104 ∧ Below w.heap.size w W2) ⟨ga.far _ (by first | omega | (simp; omega) | (simp; done)) _, by simpa using gx, (bl2 hw hW).setCell (by first | omega | (simp; omega) | (simp; done)) _⟩ ?_
    clear gx ga gl hw hW gb hf1
    rintro W2 ⟨ga, gl, hw2⟩
    have l0 := gl.cell 0; have l1 := gl.cell 1; have l2 := gl.cell 2; have l3 := gl.cell 3; have l4 := gl.cell 4; have l5 := gl.cell 5; have l6 := gl.cell 6; have l7 := gl.cell 7; have l8 := gl.cell 8; have l9 := gl.cell 9; have l10 := gl.cell 10; have l11 := gl.cell 11
    have r0 := ga.free 0; have r1 := ga.free 1; have r2 := ga.free 2; have r3 := ga.free 3; have r4 := ga.free 4; have r5 := ga.free 5; have r6 := ga.free 6; have r7 := ga.free 7; have r8 := ga.free 8; have r9 := ga.free 9; have r10 := ga.free 10; have r11 := ga.free 11
    simp at l0 l1 l2 l3 l4 l5 l6 l7 l8 l9 l10 l11
    have q0 := ga.cell 0; have q1 := ga.cell 1; have q2 := ga.cell 2; have q3 := ga.cell 3; have q4 := ga.cell 4; have q5 := ga.cell 5; have q6 := ga.cell 6; have q7 := ga.cell 7; have q8 := ga.cell 8; have q9 := ga.cell 9; have q10 := ga.cell 10; have q11 := ga.cell 11
    simp at q0 q1 q2 q3 q4 q5 q6 q7 q8 q9 q10 q11
    go_wp2_with fail
    have g3 : Blk ((((((((((((W2.setCell ⟨w.heap.size + 1, 0, none⟩ (.int .i64 31)).setCell ⟨w.heap.size + 1, 1, none⟩ (.int .i64 (28 + (M2 - M1 - 365)))).setCell ⟨w.heap.size + 1, 2, none⟩ (.int .i64 31)).setCell ⟨w.heap.size + 1, 3, none⟩ (.int .i64 30)).setCell ⟨w.heap.size + 1, 4, none⟩ (.int .i64 31)).setCell ⟨w.heap.size + 1, 5, none⟩ (.int .i64 30)).setCell ⟨w.heap.size + 1, 6, none⟩ (.int .i64 31)).setCell ⟨w.heap.size + 1, 7, none⟩ (.int .i64 31)).setCell ⟨w.heap.size + 1, 8, none⟩ (.int .i64 30)).setCell ⟨w.heap.size + 1, 9, none⟩ (.int .i64 31)).setCell ⟨w.heap.size + 1, 10, none⟩ (.int .i64 30)).setCell ⟨w.heap.size + 1, 11, none⟩ (.int .i64 31)) (w.heap.size + 1) #[.int .i64 31, .int .i64 (28 + (M2 - M1 - 365)), .int .i64 31, .int .i64 30, .int .i64 31, .int .i64 30, .int .i64 31, .int .i64 31, .int .i64 30, .int .i64 31, .int .i64 30, .int .i64 31] 104 := by
      have gz := ((((((((((((ga.set 0 (.int .i64 31)).set 1 (.int .i64 (28 + (M2 - M1 - 365)))).set 2 (.int .i64 31)).set 3 (.int .i64 30)).set 4 (.int .i64 31)).set 5 (.int .i64 30)).set 6 (.int .i64 31)).set 7 (.int .i64 31)).set 8 (.int .i64 30)).set 9 (.int .i64 31)).set 10 (.int .i64 30)).set 11 (.int .i64 31))
      simp only [List.setIfInBounds_toArray, List.set_cons_zero, List.set_cons_succ] at gz
      exact gz
    have hle : w.heap.size ≤ w.heap.size + 1 := Nat.le_succ _
    have hw3 : Below w.heap.size w ((((((((((((W2.setCell ⟨w.heap.size + 1, 0, none⟩ (.int .i64 31)).setCell ⟨w.heap.size + 1, 1, none⟩ (.int .i64 (28 + (M2 - M1 - 365)))).setCell ⟨w.heap.size + 1, 2, none⟩ (.int .i64 31)).setCell ⟨w.heap.size + 1, 3, none⟩ (.int .i64 30)).setCell ⟨w.heap.size + 1, 4, none⟩ (.int .i64 31)).setCell ⟨w.heap.size + 1, 5, none⟩ (.int .i64 30)).setCell ⟨w.heap.size + 1, 6, none⟩ (.int .i64 31)).setCell ⟨w.heap.size + 1, 7, none⟩ (.int .i64 31)).setCell ⟨w.heap.size + 1, 8, none⟩ (.int .i64 30)).setCell ⟨w.heap.size + 1, 9, none⟩ (.int .i64 31)).setCell ⟨w.heap.size + 1, 10, none⟩ (.int .i64 30)).setCell ⟨w.heap.size + 1, 11, none⟩ (.int .i64 31)) := ((((((((((((hw2.setCell (p := ⟨w.heap.size + 1, 0, none⟩) hle (.int .i64 31)).setCell (p := ⟨w.heap.size + 1, 1, none⟩) hle (.int .i64 (28 + (M2 - M1 - 365)))).setCell (p := ⟨w.heap.size + 1, 2, none⟩) hle (.int .i64 31)).setCell (p := ⟨w.heap.size + 1, 3, none⟩) hle (.int .i64 30)).setCell (p := ⟨w.heap.size + 1, 4, none⟩) hle (.int .i64 31)).setCell (p := ⟨w.heap.size + 1, 5, none⟩) hle (.int .i64 30)).setCell (p := ⟨w.heap.size + 1, 6, none⟩) hle (.int .i64 31)).setCell (p := ⟨w.heap.size + 1, 7, none⟩) hle (.int .i64 31)).setCell (p := ⟨w.heap.size + 1, 8, none⟩) hle (.int .i64 30)).setCell (p := ⟨w.heap.size + 1, 9, none⟩) hle (.int .i64 31)).setCell (p := ⟨w.heap.size + 1, 10, none⟩) hle (.int .i64 30)).setCell (p := ⟨w.heap.size + 1, 11, none⟩) hle (.int .i64 31))
    clear q0 r0 l0 q1 r1 l1 q2 r2 l2 q3 r3 l3 q4 r4 l4 q5 r5 l5 q6 r6 l6 q7 r7 l7 q8 r8 l8 q9 r9 l9 q10 r10 l10 q11 r11 l11 ga gl hw2 hle
    generalize ((((((((((((W2.setCell ⟨w.heap.size + 1, 0, none⟩ (.int .i64 31)).setCell ⟨w.heap.size + 1, 1, none⟩ (.int .i64 (28 + (M2 - M1 - 365)))).setCell ⟨w.heap.size + 1, 2, none⟩ (.int .i64 31)).setCell ⟨w.heap.size + 1, 3, none⟩ (.int .i64 30)).setCell ⟨w.heap.size + 1, 4, none⟩ (.int .i64 31)).setCell ⟨w.heap.size + 1, 5, none⟩ (.int .i64 30)).setCell ⟨w.heap.size + 1, 6, none⟩ (.int .i64 31)).setCell ⟨w.heap.size + 1, 7, none⟩ (.int .i64 31)).setCell ⟨w.heap.size + 1, 8, none⟩ (.int .i64 30)).setCell ⟨w.heap.size + 1, 9, none⟩ (.int .i64 31)).setCell ⟨w.heap.size + 1, 10, none⟩ (.int .i64 30)).setCell ⟨w.heap.size + 1, 11, none⟩ (.int .i64 31)) = W3 at g3 hw3 ⊢
    have q0 := g3.cell 0; have q1 := g3.cell 1; have q2 := g3.cell 2; have q3 := g3.cell 3; have q4 := g3.cell 4; have q5 := g3.cell 5; have q6 := g3.cell 6; have q7 := g3.cell 7; have q8 := g3.cell 8; have q9 := g3.cell 9; have q10 := g3.cell 10; have q11 := g3.cell 11
    simp at q0 q1 q2 q3 q4 q5 q6 q7 q8 q9 q10 q11
    --T a
    refine bodyPost_ret (v := .agg #[.int .i64 31, .int .i64 (28 + (M2 - M1 - 365)), .int .i64 31, .int .i64 30, .int .i64 31, .int .i64 30, .int .i64 31, .int .i64 31, .int .i64 30, .int .i64 31, .int .i64 30, .int .i64 31]) (by simp [results, Tryz.results66, go_sem, q0, q1, q2, q3, q4, q5, q6, q7, q8, q9, q10, q11]) rfl ?_
    exact ⟨by rw [HT.out]; rfl, hw3⟩
end Go.Proofs.YtfbnllmmoaialaaGreat
namespace Go.Proofs.YtfbnllmmoaialaaGreat
open Go.RowKit

set_option maxRecDepth 100000 in
set_option maxHeartbeats 4000000 in
theorem solarC_any (e b u d y : Int) (x0 x1 : Nat) (w : World) (ok : SolOk ⟨e, b, u⟩) (y0 : 0 ≤ y) (y1 : y ≤ 9999) (g0 : Blk w x0 #[.int .i64 e, .int .i64 b, .int .i64 u] 24) (g1 : Blk w x1 #[.int .i64 d] 3) :
    Calls Tryz.prog 64 #[.int .i64 y, .pointer (some ⟨x0, 0, none⟩), .pointer (some ⟨x1, 0, none⟩)] w fun en w' => en = .returned (.bool (decide (d < begI ⟨e, b, u⟩ (y + 1)))) ∧ Below w.heap.size w w' := by
  have HB := Lib.hid (fun W => begins_any e b u (y + 1) W ok (by omega) (by omega))
  have v0 : IntKind.i64.wrap (y + 1) = y + 1 := IntWalk.i64_in _ ⟨by omega, by omega⟩
  have c0 := g0.cell 0; have c1 := g0.cell 1; have c2 := g0.cell 2; have c3 := g1.cell 0
  simp at c0 c1 c2 c3
  have hS : ∀ W, Below w.heap.size w W → W.cell? ⟨x0, 0, none⟩ = some (.int .i64 e) ∧ W.cell? ⟨x0, 1, none⟩ = some (.int .i64 b) ∧ W.cell? ⟨x0, 2, none⟩ = some (.int .i64 u) ∧ W.cell? ⟨x1, 0, none⟩ = some (.int .i64 d) := fun W hW => by
    have g0 := g0.below hW g0.lt
    have g1 := g1.below hW g1.lt
    have c0 := g0.cell 0; have c1 := g0.cell 1; have c2 := g0.cell 2; have c3 := g1.cell 0
    simp at c0 c1 c2 c3
    exact ⟨c0, c1, c2, c3⟩
  obtain ⟨M, hM⟩ : ∃ M, M = begI ⟨e, b, u⟩ (y + 1) := ⟨_, rfl⟩
  rw [← hM] at HB ⊢
  clear hM c0 c1 c2 c3 g0 g1
  go_enter Tryz.func64, Tryz.ntmps64
  go_upto_region 1 with fail
  refine' wp_region_planE [.eff, .eff, .eff, .eff, .eff, .eff, .eff] [Det _, Det _, Det _, Det (.int .i64 M), Det _, Det _, Det _] [(6, 4), (5, 10), (4, 9), (3, 8), (2, 7), (1, 6), (0, 5)] (by kernel_rfl) (by kernel_rfl) (by kernel_rfl) (by kernel_rfl) (by kernel_rfl) (by kernel_rfl) (by kernel_rfl) ?hp ?hend ?hst
  case hp =>
    refine And.intro ⟨[], by kernel_rfl, fun xs W hW hf K hK => opV_free rfl ?_⟩ ?_
    focus (have hs := hS W hW; (try simp only [factsL, pickF, Det, and_true] at hf); (try simp only [putL, Act.put, List.setIfInBounds_toArray, List.set_cons_zero, List.set_cons_succ]); (try simp only [hf]); go_simp; refine hK.out _ _ (Below.refl _ _) ?_; unfold Det; rfl)
    refine And.intro ⟨[], by kernel_rfl, fun xs W hW hf K hK => opV_free rfl ?_⟩ ?_
    focus (have hs := hS W hW; (try simp only [factsL, pickF, Det, and_true] at hf); (try simp only [putL, Act.put, List.setIfInBounds_toArray, List.set_cons_zero, List.set_cons_succ]); (try simp only [hf]); go_simp; refine hK.out _ _ (Below.refl _ _) ?_; unfold Det; rfl)
    refine And.intro ⟨[(1, 6)], by kernel_rfl, fun xs W hW hf K hK => opV_free rfl ?_⟩ ?_
    focus (have hs := hS W hW; (try simp only [factsL, pickF, Det, and_true] at hf); (try simp only [putL, Act.put, List.setIfInBounds_toArray, List.set_cons_zero, List.set_cons_succ]); (try simp only [hf]); go_simp; refine hK.out _ _ (Below.refl _ _) ?_; unfold Det; rfl)
    refine And.intro ⟨[(2, 7), (0, 5)], by kernel_rfl, fun xs W hW hf K hK => opV_free rfl ?_⟩ ?_
    focus (simp only [factsL, pickF, Det, and_true] at hf; (try simp only [putL, Act.put, List.setIfInBounds_toArray, List.set_cons_zero, List.set_cons_succ]); (try simp only [hf]); go_simp; refine (HB.out _).mono ?_; rintro _ w9 ⟨rfl, hbw⟩; exact ⟨_, rfl, hK.out _ _ hbw rfl⟩)
    refine And.intro ⟨[], by kernel_rfl, fun xs W hW hf K hK => opV_free rfl ?_⟩ ?_
    focus (have hs := hS W hW; (try simp only [factsL, pickF, Det, and_true] at hf); (try simp only [putL, Act.put, List.setIfInBounds_toArray, List.set_cons_zero, List.set_cons_succ]); (try simp only [hf]); go_simp; refine hK.out _ _ (Below.refl _ _) ?_; unfold Det; rfl)
    refine And.intro ⟨[(4, 9), (3, 8)], by kernel_rfl, fun xs W hW hf K hK => opV_free rfl ?_⟩ ?_
    focus (have hs := hS W hW; (try simp only [factsL, pickF, Det, and_true] at hf); (try simp only [putL, Act.put, List.setIfInBounds_toArray, List.set_cons_zero, List.set_cons_succ]); (try simp only [hf]); go_simp; refine hK.out _ _ (Below.refl _ _) ?_; unfold Det; rfl)
    refine And.intro ⟨[(5, 10)], by kernel_rfl, fun xs W hW hf K hK => opV_free rfl ?_⟩ ?_
    focus (have hs := hS W hW; (try simp only [factsL, pickF, Det, and_true] at hf); (try simp only [putL, Act.put, List.setIfInBounds_toArray, List.set_cons_zero, List.set_cons_succ]); (try simp only [hf]); go_simp; refine hK.out _ _ (Below.refl _ _) ?_; unfold Det; rfl)
    trivial
  case hst => exact ⟨det_stays, det_stays, det_stays, det_stays, det_stays, det_stays, det_stays, trivial⟩
  case hend =>
    intro xs W hW hf
    simp only [factsA, Det, Nat.zero_add, Nat.reduceAdd, and_true] at hf
    (simp only [putL, Act.put, upd, List.setIfInBounds_toArray, List.set_cons_zero, List.set_cons_succ])
    simp only [hf]
    clear hf
    go_wp2
    go_ret
    exact ⟨rfl, hW⟩
theorem ent_solarC : Ent 64 := ent_of (fn := Tryz.f64) (by kernel_rfl) (by kernel_rfl) (by kernel_rfl)
theorem box_stays {cs : Array Value} {t n : Nat} : Stays (fun x W => ∃ b, x = .pointer (some ⟨b, 0, none⟩) ∧ Blk W b cs t ∧ n ≤ b) := fun _ _ _ ⟨b, h1, h2, h3⟩ hb => ⟨b, h1, h2.below hb h2.lt, h3⟩
theorem blk3 {W : World} {b t : Nat} {x y z : Value} (h : Blk W b #[x, y, z] t) (u v r : Value) : Blk (((W.setCell ⟨b, 0, none⟩ u).setCell ⟨b, 1, none⟩ v).setCell ⟨b, 2, none⟩ r) b #[u, v, r] t := by
  have := ((h.set 0 u).set 1 v).set 2 r
  simpa using this
theorem idx_mon (X : Int) : ∀ (k : Nat) (hk : k < 12) (w : World), (Instr.index 104 (.agg ((monL X).map (Value.int .i64)).toArray) (.int .i64 k)).run Tryz.prog w = .ok (.int .i64 ((monL X)[k]'hk)) w
  | 0, _, _ => by kernel_rfl
  | 1, _, _ => by kernel_rfl
  | 2, _, _ => by kernel_rfl
  | 3, _, _ => by kernel_rfl
  | 4, _, _ => by kernel_rfl
  | 5, _, _ => by kernel_rfl
  | 6, _, _ => by kernel_rfl
  | 7, _, _ => by kernel_rfl
  | 8, _, _ => by kernel_rfl
  | 9, _, _ => by kernel_rfl
  | 10, _, _ => by kernel_rfl
  | 11, _, _ => by kernel_rfl
set_option maxRecDepth 100000 in
set_option maxHeartbeats 4000000 in
theorem solar_any (e b u d : Int) (w : World) (ok : SolOk ⟨e, b, u⟩) (d0 : 0 ≤ d) (d1 : d ≤ 1000000) :
    Calls Tryz.prog 40 #[.agg #[.int .i64 e, .int .i64 b, .int .i64 u], .int .i64 d] w fun en w' => en = .returned (.agg #[.int .i64 (solI ⟨e, b, u⟩ d).y, .int .i64 (solI ⟨e, b, u⟩ d).m, .int .i64 (solI ⟨e, b, u⟩ d).d]) ∧ Below w.heap.size w w' := by
  obtain ⟨h1, h2, h3⟩ := yearI_spec ok d0 d1
  obtain ⟨y, hy⟩ : ∃ y, y = yearI ⟨e, b, u⟩ d := ⟨_, rfl⟩
  have HY := Lib.hid hy
  rw [← hy] at h1 h2 h3
  have HB := Lib.hid (fun W => begins_any e b u y W ok (by omega) (by omega))
  have HM := Lib.hid (fun W => months_any e b u y W ok (by omega) (by omega))
  have HSE := Lib.hid (fun (W : World) (x0 x1 : Nat) (g0 : Blk W x0 #[.int .i64 e, .int .i64 b, .int .i64 u] 24) (g1 : Blk W x1 #[.int .i64 d] 3) =>
    search_any 64 #[.pointer (some ⟨x0, 0, none⟩), .pointer (some ⟨x1, 0, none⟩)] 2740 (fun k => decide (d < begI ⟨e, b, u⟩ ((k : Int) + 1))) W ent_solarC (by omega)
      (fun i j hij hj h => by
        have := begI_mono ok (x := i + 1) (y := j + 1) (by omega)
        have e1 : ((i + 1 : Nat) : Int) = (i : Int) + 1 := by omega
        have e2 : ((j + 1 : Nat) : Int) = (j : Int) + 1 := by omega
        rw [e1, e2] at this
        simp at h ⊢; omega)
      (fun k hk W' hW' => solarC_any e b u d k x0 x1 W' ok (by omega) (by omega) (g0.below hW' g0.lt) (g1.below hW' g1.lt)))
  have HYE : Hid ((List.range 2740).findIdx (fun k : Nat => decide (d < begI ⟨e, b, u⟩ ((k : Int) + 1))) = y) := (hy.symm : _ = y)
  rw [HYE.out] at HSE
  have HX : Hid (solI ⟨e, b, u⟩ d = ⟨y, (walkM (monL (extraN ⟨e, b, u⟩ y)) 1 (d - begI ⟨e, b, u⟩ y + 1)).1, (walkM (monL (extraN ⟨e, b, u⟩ y)) 1 (d - begI ⟨e, b, u⟩ y + 1)).2⟩) := (by rw [hy]; rfl : solI ⟨e, b, u⟩ d = _)
  have hM2 := begI_nn ok (y := (y : Int)) (by omega) (by omega)
  have hx2 : extraN ⟨e, b, u⟩ y = 0 ∨ extraN ⟨e, b, u⟩ y = 1 := by
    have h4 := begI_step ok (y := (y : Int)) (by omega)
    have h5 := yearN_bd ⟨e, b, u⟩ (y : Int)
    unfold extraN; omega
  obtain ⟨X, hX⟩ : ∃ X, X = extraN ⟨e, b, u⟩ y := ⟨_, rfl⟩
  obtain ⟨M, hM⟩ : ∃ M, M = begI ⟨e, b, u⟩ y := ⟨_, rfl⟩
  rw [← hX] at HM HX hx2
  rw [← hM] at HB HX h1 hM2
  have v1 : IntKind.i64.wrap (d - M) = d - M := IntWalk.i64_in _ ⟨by omega, by omega⟩
  have v2 : IntKind.i64.wrap (d - M + 1) = d - M + 1 := IntWalk.i64_in _ ⟨by omega, by omega⟩
  have hdb : 1 ≤ d - M + 1 ∧ d - M + 1 ≤ 1000001 := by omega
  clear hX hM hy HY HYE h2 ok
  go_enter Tryz.func40, Tryz.ntmps40
  go_upto_region 1 with fail
  refine gen_w (fun W => Blk W w.heap.size #[.int .i64 e, .int .i64 b, .int .i64 u] 24 ∧ Blk W (w.heap.size + 1) #[.int .i64 d] 3 ∧ Blk W (w.heap.size + 1 + 1) #[.int .i64 0, .int .i64 0, .int .i64 0] 54 ∧ Below w.heap.size w W) ⟨((Blk.at_ rfl).alloc _).alloc _, (Blk.at_ (by simp)).alloc _, Blk.at_ (by simp), by (repeat (first | exact Below.refl _ _ | assumption | (refine Below.alloc ?_ (by first | omega | (simp; omega) | (simp; done)) _) | (refine Below.setCell ?_ (by first | omega | (simp; omega) | (simp; done)) _) | (refine Below.drew ?_) | (refine belowN ?_ _) | (refine Below.trans ?_ (Below.mono ‹Below _ _ _› (by first | omega | (simp; omega) | (simp; done))))))⟩ ?_
  rintro V0 ⟨g0, g1, g2, hw0⟩
  go_upto_region 2 with (go_at_call 63; refine (HSE.out _ _ _ g0 g1).mono ?_; rintro _ V ⟨rfl, hbs⟩; have g0 := g0.below hbs g0.lt; have g1 := g1.below hbs g1.lt; have g2 := g2.below hbs g2.lt; have hw := bl2 hw0 hbs)
  clear HSE hbs hw0
  have hS : ∀ W, Below V.heap.size V W → W.cell? ⟨w.heap.size, 0, none⟩ = some (.int .i64 e) ∧ W.cell? ⟨w.heap.size, 1, none⟩ = some (.int .i64 b) ∧ W.cell? ⟨w.heap.size, 2, none⟩ = some (.int .i64 u) ∧ W.cell? ⟨w.heap.size + 1, 0, none⟩ = some (.int .i64 d) := fun W hW => by
    have g0 := g0.below hW g0.lt
    have g1 := g1.below hW g1.lt
    have c0 := g0.cell 0; have c1 := g0.cell 1; have c2 := g0.cell 2; have c3 := g1.cell 0
    simp at c0 c1 c2 c3
    exact ⟨c0, c1, c2, c3⟩
  go_cut [6] (fun s6 wx => ∃ b6 : Nat, s6 = .pointer (some ⟨b6, 0, none⟩) ∧ Hid (Below V.heap.size V wx) ∧ V.heap.size ≤ b6 ∧ Hid (Blk wx b6 #[.int .i64 y, .int .i64 1, .int .i64 (d - M + 1)] 54))
  case first =>
    refine' wp_region_plan 9 [8, 7, 6, 5, 4, 3, 2, 1, 0] [.eff, .eff, .eff, .eff, .eff, .eff, .eff, .eff, .eff, .last] [Det _, Det _, Det _, Det _, Det (.int .i64 M), Det _, Det _, Det _, fun x W => ∃ b6, x = .pointer (some ⟨b6, 0, none⟩) ∧ Blk W b6 #[.int .i64 0, .int .i64 0, .int .i64 0] 54 ∧ V.heap.size ≤ b6, noF] rfl [(8, 6), (7, 18)] [(8, 6), (7, 18), (6, 17), (5, 16), (4, 15), (3, 14), (2, 13), (1, 12), (0, 11)] (by kernel_rfl) (by kernel_rfl) (by kernel_rfl) (by kernel_rfl) (by kernel_rfl) (by kernel_rfl) (by kernel_rfl) (by kernel_rfl) (by kernel_rfl) rfl ?hp ?hend ?hst
    case hp =>
      refine And.intro ⟨[], by kernel_rfl, fun xs W hW hf K hK => opV_free rfl ?_⟩ ?_
      focus (have hs := hS W hW; (try simp only [factsL, pickF, Det, and_true] at hf); (try simp only [putL, Act.put, List.setIfInBounds_toArray, List.set_cons_zero, List.set_cons_succ]); (try simp only [hf]); go_simp; refine hK.out _ _ (Below.refl _ _) ?_; unfold Det; rfl)
      refine And.intro ⟨[], by kernel_rfl, fun xs W hW hf K hK => opV_free rfl ?_⟩ ?_
      focus (have hs := hS W hW; (try simp only [factsL, pickF, Det, and_true] at hf); (try simp only [putL, Act.put, List.setIfInBounds_toArray, List.set_cons_zero, List.set_cons_succ]); (try simp only [hf]); go_simp; refine hK.out _ _ (Below.refl _ _) ?_; unfold Det; rfl)
      refine And.intro ⟨[], by kernel_rfl, fun xs W hW hf K hK => opV_free rfl ?_⟩ ?_
      focus (have hs := hS W hW; (try simp only [factsL, pickF, Det, and_true] at hf); (try simp only [putL, Act.put, List.setIfInBounds_toArray, List.set_cons_zero, List.set_cons_succ]); (try simp only [hf]); go_simp; refine hK.out _ _ (Below.refl _ _) ?_; unfold Det; rfl)
      refine And.intro ⟨[], by kernel_rfl, fun xs W hW hf K hK => opV_free rfl ?_⟩ ?_
      focus (have hs := hS W hW; (try simp only [factsL, pickF, Det, and_true] at hf); (try simp only [putL, Act.put, List.setIfInBounds_toArray, List.set_cons_zero, List.set_cons_succ]); (try simp only [hf]); go_simp; refine hK.out _ _ (Below.refl _ _) ?_; unfold Det; rfl)
      refine And.intro ⟨[(3, 14), (2, 13)], by kernel_rfl, fun xs W hW hf K hK => opV_free rfl ?_⟩ ?_
      focus (simp only [factsL, pickF, Det, and_true] at hf; (try simp only [putL, Act.put, List.setIfInBounds_toArray, List.set_cons_zero, List.set_cons_succ]); (try simp only [hf]); go_simp; refine (HB.out _).mono ?_; rintro _ w9 ⟨rfl, hbw⟩; exact ⟨_, rfl, hK.out _ _ hbw rfl⟩)
      refine And.intro ⟨[(4, 15), (1, 12)], by kernel_rfl, fun xs W hW hf K hK => opV_free rfl ?_⟩ ?_
      focus (have hs := hS W hW; (try simp only [factsL, pickF, Det, and_true] at hf); (try simp only [putL, Act.put, List.setIfInBounds_toArray, List.set_cons_zero, List.set_cons_succ]); (try simp only [hf]); go_simp; refine hK.out _ _ (Below.refl _ _) ?_; unfold Det; rfl)
      refine And.intro ⟨[(5, 16)], by kernel_rfl, fun xs W hW hf K hK => opV_free rfl ?_⟩ ?_
      focus (have hs := hS W hW; (try simp only [factsL, pickF, Det, and_true] at hf); (try simp only [putL, Act.put, List.setIfInBounds_toArray, List.set_cons_zero, List.set_cons_succ]); (try simp only [hf]); go_simp; refine hK.out _ _ (Below.refl _ _) ?_; unfold Det; rfl)
      refine And.intro ⟨[(6, 17), (0, 11)], by kernel_rfl, fun xs W hW hf K hK => opV_free rfl ?_⟩ ?_
      focus (have hs := hS W hW; (try simp only [factsL, pickF, Det, and_true] at hf); (try simp only [putL, Act.put, List.setIfInBounds_toArray, List.set_cons_zero, List.set_cons_succ]); (try simp only [hf]); go_simp; refine hK.out _ _ (Below.refl _ _) ?_; unfold Det; rfl)
      refine And.intro ⟨[], by kernel_rfl, fun xs W hW hf K hK => opV_free rfl ?_⟩ ?_
      focus (go_simp; exact hK.out _ _ ((Below.refl _ _).alloc (Nat.le_refl _) _) ⟨_, rfl, Blk.new _ _ _, hW.size⟩)
      trivial
    case hst => exact ⟨det_stays, det_stays, det_stays, det_stays, det_stays, det_stays, det_stays, det_stays, box_stays, noF_stays, trivial⟩
    case hend =>
      intro xs W hW hf
      simp only [factsA, Det, noF, Nat.zero_add, Nat.reduceAdd, and_true] at hf
      obtain ⟨f0, f1, f2, f3, f4, f5, f6, f7, b6, f8, hB, hz⟩ := hf
      refine opV_free rfl ?_
      (simp only [putL, Act.put, upd, List.setIfInBounds_toArray, List.set_cons_zero, List.set_cons_succ])
      simp only [f0, f1, f2, f3, f4, f5, f6, f7, f8]
      have hB0 := hB.free 0; have hB1 := hB.free 1; have hB2 := hB.free 2
      have hC0 := hB.cell 0; have hC1 := hB.cell 1; have hC2 := hB.cell 2
      simp at hC0 hC1 hC2
      go_simp
      go_wp2_with fail
      go_meet
      exact ⟨b6, rfl, ((hW.setCell (p := ⟨b6, 0, none⟩) hz _).setCell (p := ⟨b6, 1, none⟩) hz _).setCell (p := ⟨b6, 2, none⟩) hz _, hz, blk3 hB _ _ _⟩
  case rest =>
    obtain ⟨b6, rfl, HV, hz, G6⟩ := hcut
    rename World => W
    have g0 := g0.below HV.out g0.lt
    have g2v := g2
    have g2 := g2.below HV.out g2.lt
    have hw3 := bl2 hw HV.out
    obtain ⟨c0, c1, c2, -⟩ := hS W HV.out
    have hz2 : w.heap.size + 1 + 1 < b6 := by have := g2v.lt; omega
    obtain ⟨L, hL⟩ : ∃ L, L = monL X := ⟨_, rfl⟩
    have hL12 : L.length = 12 := by rw [hL]; rfl
    have hLb : ∀ x ∈ L, 0 ≤ x ∧ x ≤ 31 := fun x hx => by rw [hL] at hx; simp [monL] at hx; omega
    rw [← hL] at HX
    have HIX : Hid (∀ (k : Nat) (hk : k < L.length) (w : World), (Instr.index 104 (.agg (L.map (Value.int .i64)).toArray) (.int .i64 k)).run Tryz.prog w = .ok (.int .i64 L[k]) w) := (by subst hL; exact fun k hk w => idx_mon X k hk w : ∀ (k : Nat) (hk : k < L.length) (w : World), _)
    have HM' : Hid (∀ W, Calls Tryz.prog 66 #[.agg #[.int .i64 e, .int .i64 b, .int .i64 u], .int .i64 y] W fun en w' => en = .returned (.agg (L.map (Value.int .i64)).toArray) ∧ Below W.heap.size W w') := (by rw [hL]; exact HM.out : ∀ W, _)
    obtain ⟨D, hD⟩ : ∃ D, D = d - M + 1 := ⟨_, rfl⟩
    rw [← hD] at G6 HX hdb
    clear hS HB g1 HM hL hD v1 v2 hM2 h1 hx2
    go_wp2_with (go_at_call 66; refine (HM'.out _).mono ?_; rintro _ W4 ⟨rfl, hb4⟩)
    have hw4 := bl2 hw3 hb4
    have g2 := g2.below hb4 g2.lt
    have g6 := G6.out.below hb4 G6.out.lt
    have HW0 : Hid (walkM (L.drop 0) 1 D = walkM L 1 D) := (rfl : walkM (L.drop 0) 1 D = walkM L 1 D)
    have HL := Lib.hid hL12
    clear hb4 HV hw3 hz c0 c1 c2 HM' G6 g0 hL12 g2v
    go_loopw [8, 22] (fun _ i wr => ∃ (k : Nat) (m dd : Int), k ≤ 12 ∧ i = .int .i64 k ∧ (0 ≤ m ∧ m ≤ (k : Int) + 1) ∧ -1000 ≤ dd ∧ dd ≤ 1000001 ∧ Hid (walkM (L.drop k) m dd = walkM L 1 D) ∧ Hid (Below w.heap.size w wr) ∧ Hid (Blk wr (w.heap.size + 1 + 1) #[.int .i64 0, .int .i64 0, .int .i64 0] 54) ∧ Hid (Blk wr b6 #[.int .i64 y, .int .i64 m, .int .i64 dd] 54)) (fun _ i _ => 12 - (intOf i).toNat)
    case atStart => exact ⟨0, 1, D, by omega, rfl, by omega, by omega, by omega, HW0, hw4, g2, g6⟩
    case round =>
      obtain ⟨k, m, dd, hk, rfl, hm, hd0, hd1, HW, HB, G2, G6⟩ := hrel
      have g6 := G6.out
      have c0 := g6.cell 0; have c1 := g6.cell 1; have c2 := g6.cell 2
      have f1 := g6.free 1; have f2 := g6.free 2
      simp at c0 c1 c2
      by_cases hlt : k < 12
      · have hkl : k < L.length := by rw [HL.out]; exact hlt
        have hix := HIX.out k hkl
        have hk0 : (0 : Int) ≤ (k : Int) := by omega
        have hk1 : (k : Int) < 12 := by omega
        obtain ⟨n0, n1⟩ := hLb _ (List.getElem_mem hkl)
        have HDR := Lib.hid (List.drop_eq_getElem_cons hkl)
        obtain ⟨n, hn⟩ : ∃ n, n = L[k] := ⟨_, rfl⟩
        rw [← hn] at hix n0 n1 HDR
        clear hn
        by_cases hle : dd ≤ n
        · have hle' : decide (dd ≤ n) = true := by simpa using hle
          have HR : Hid (walkM L 1 D = (m, dd)) := (by rw [← HW.out, HDR.out]; simp only [walkM]; rw [if_pos hle] : walkM L 1 D = (m, dd))
          have g2 := G2.out
          have t0 := g2.cell 0; have t1 := g2.cell 1; have t2 := g2.cell 2
          have r0 := g2.free 0; have r1 := g2.free 1; have r2 := g2.free 2
          simp at t0 t1 t2
          go_wp2_with fail
          have g3 := blk3 g2 (.int .i64 y) (.int .i64 m) (.int .i64 dd)
          have hle3 : w.heap.size ≤ w.heap.size + 1 + 1 := by omega
          have hw3 := ((HB.out.setCell (p := ⟨w.heap.size + 1 + 1, 0, none⟩) hle3 (.int .i64 y)).setCell (p := ⟨w.heap.size + 1 + 1, 1, none⟩) hle3 (.int .i64 m)).setCell (p := ⟨w.heap.size + 1 + 1, 2, none⟩) hle3 (.int .i64 dd)
          generalize ((wr.setCell ⟨w.heap.size + 1 + 1, 0, none⟩ (.int .i64 y)).setCell ⟨w.heap.size + 1 + 1, 1, none⟩ (.int .i64 m)).setCell ⟨w.heap.size + 1 + 1, 2, none⟩ (.int .i64 dd) = W3 at g3 hw3 ⊢
          have q0 := g3.cell 0; have q1 := g3.cell 1; have q2 := g3.cell 2
          simp at q0 q1 q2
          refine bodyPost_ret (v := .agg #[.int .i64 y, .int .i64 m, .int .i64 dd]) (by simp [results, Tryz.results40, go_sem, q0, q1, q2]) rfl ?_
          exact ⟨by rw [HX.out, HR.out], hw3⟩
        · have hle' : decide (dd ≤ n) = false := by simpa using hle
          have w1 : IntKind.i64.wrap (m + 1) = m + 1 := IntWalk.i64_in _ ⟨by omega, by omega⟩
          have w2 : IntKind.i64.wrap (dd - n) = dd - n := IntWalk.i64_in _ ⟨by omega, by omega⟩
          have HR : Hid (walkM (L.drop (k + 1)) (m + 1) (dd - n) = walkM L 1 D) := (by rw [← HW.out, HDR.out]; simp only [walkM]; rw [if_neg hle] : walkM (L.drop (k + 1)) (m + 1) (dd - n) = walkM L 1 D)
          go_wp2_with fail
          go_roundw
          case rel => exact ⟨k + 1, m + 1, dd - n, by omega, by go_num, by omega, by omega, by omega, HR, (HB.out.setCell (p := ⟨b6, 1, none⟩) (by show w.heap.size ≤ b6; omega) _).setCell (p := ⟨b6, 2, none⟩) (by show w.heap.size ≤ b6; omega) _,
            (G2.out.far ⟨b6, 1, none⟩ (by show _ ≠ b6; omega) _).far ⟨b6, 2, none⟩ (by show _ ≠ b6; omega) _, by show Blk _ _ _ _; have h := (g6.set 1 (.int .i64 (m + 1))).set 2 (.int .i64 (dd - n)); simpa using h⟩
          case measure => simp [intOf]; omega
      · obtain rfl : k = 12 := by omega
        have HR : Hid (walkM L 1 D = (m, dd)) := (by rw [← HW.out, List.drop_eq_nil_of_le (by rw [HL.out]; omega)]; rfl : walkM L 1 D = (m, dd))
        have g2 := G2.out
        have t0 := g2.cell 0; have t1 := g2.cell 1; have t2 := g2.cell 2
        have r0 := g2.free 0; have r1 := g2.free 1; have r2 := g2.free 2
        simp at t0 t1 t2
        go_wp2_with fail
        have g3 := blk3 g2 (.int .i64 y) (.int .i64 m) (.int .i64 dd)
        have hle3 : w.heap.size ≤ w.heap.size + 1 + 1 := by omega
        have hw3 := ((HB.out.setCell (p := ⟨w.heap.size + 1 + 1, 0, none⟩) hle3 (.int .i64 y)).setCell (p := ⟨w.heap.size + 1 + 1, 1, none⟩) hle3 (.int .i64 m)).setCell (p := ⟨w.heap.size + 1 + 1, 2, none⟩) hle3 (.int .i64 dd)
        generalize ((wr.setCell ⟨w.heap.size + 1 + 1, 0, none⟩ (.int .i64 y)).setCell ⟨w.heap.size + 1 + 1, 1, none⟩ (.int .i64 m)).setCell ⟨w.heap.size + 1 + 1, 2, none⟩ (.int .i64 dd) = W3 at g3 hw3 ⊢
        have q0 := g3.cell 0; have q1 := g3.cell 1; have q2 := g3.cell 2
        simp at q0 q1 q2
        refine bodyPost_ret (v := .agg #[.int .i64 y, .int .i64 m, .int .i64 dd]) (by simp [results, Tryz.results40, go_sem, q0, q1, q2]) rfl ?_
        exact ⟨by rw [HX.out, HR.out], hw3⟩
end Go.Proofs.YtfbnllmmoaialaaGreat

/- almanac: a look at a day; its dates. -/
import Derived.Test.YtfbnllmmoaialaaGreatZ11Ao
import Derived.Test.YtfbnllmmoaialaaGreatAi
namespace Go.Proofs.YtfbnllmmoaialaaGreat
open Go.RowKit

theorem grown_setZ {a b : World} {z i : Nat} (h : a.grownBy b (some z)) (v : Value) : a.grownBy (b.setCell ⟨z, i, none⟩ v) (some z) :=
  ⟨h.os, h.tape, h.output, by simpa [World.setCell] using h.size, fun j hj hne => (Below.heap_setCell b _ v j (by rintro rfl; exact hne rfl)).trans (h.block j hj hne)⟩
theorem grown_setN {a b : World} {r : Option Nat} {n i : Nat} (h : a.grownBy b r) (hn : a.heap.size ≤ n) (v : Value) : a.grownBy (b.setCell ⟨n, i, none⟩ v) r :=
  ⟨h.os, h.tape, h.output, by simpa [World.setCell] using h.size, fun j hj hne => (Below.heap_setCell b _ v j (fun e => absurd hj (by rw [e]; show ¬ n < _; omega))).trans (h.block j hj hne)⟩
theorem lkAt_any (x : Alm) (z A M : Nat) (d0 day : Int) (sv mv : Value) (w : World) (gz : Blk w z (lkv A d0 sv mv M) 123) :
    Calls Tryz.prog 49 #[.pointer (some ⟨z, 0, none⟩), .int .i64 day] w fun e w' => e = .returned (.pointer (some ⟨z, 0, none⟩)) ∧ LkD x z A M day w w' := by
  (have c0 := gz.cell 0; have c1 := gz.cell 1; have c2 := gz.cell 2; have c3 := gz.cell 3; have c4 := gz.cell 4; simp at c0 c1 c2 c3 c4)
  have f1 := gz.free 1; have f2 := gz.free 2; have f3 := gz.free 3
  have hlt := gz.lt
  have gw := ((gz.set 1 (.int .i64 day)).set 2 (.pointer none)).set 3 (.pointer none)
  have HG := Lib.hid gw
  clear gw gz
  go_enter Tryz.func49, Tryz.ntmps49
  go_wp2
  go_ret
  have := HG.out
  exact ⟨rfl, grown_setZ (grown_setZ (grown_setZ (grownZ z (Below.refl _ _)) _) _) _, .pointer none, .pointer none, by simpa using HG.out, .inl rfl, .inl rfl⟩
set_option maxRecDepth 100000 in
set_option maxHeartbeats 2000000 in
theorem bySun_any (x : Alm) (z A f0 M : Nat) (day : Int) (w : World) (hx : almB x = true) (d0 : 0 ≤ day) (d1 : day ≤ 1000000) (hs : LkS x z A f0 M w) (hd : LkD x z A M day w w) :
    Calls Tryz.prog 79 #[.pointer (some ⟨z, 0, none⟩)] w fun e w' => e = .returned (.agg (solI x.sol day).cells.toArray) ∧ LkD x z A M day w w' := by
  obtain ⟨sv, mv, gz, hsun, hmoon⟩ := hd.at_
  simp only [almB, Bool.and_eq_true] at hx
  obtain ⟨⟨⟨-, -⟩, hso⟩, -⟩ := hx
  have hA := hs.la
  have hlz := hs.lz
  rcases hsun with rfl | ⟨b, rfl, hbz, gb⟩
  · obtain ⟨sol, hsol⟩ : ∃ s, s = x.sol := ⟨_, rfl⟩
    obtain ⟨e, b, u⟩ := sol
    rw [← hsol] at hso
    have HX := Lib.hid (fun W => solar_any e b u day W (solB_iff.1 hso) d0 d1)
    have ga : Blk w A #[.slice x.a x.cycles.length x.c, .int .i64 e, .int .i64 b, .int .i64 u, .int .i64 x.lun.d, .int .i64 x.lun.p, .int .i64 x.lun.f, .int .i64 x.lun.m, .int .i64 x.lun.y, .int .i64 x.lun.s, .int .i64 x.lun.l] 28 := by
      have h := hs.alm
      simp only [Alm.cells, ← hsol] at h
      exact h
    rw [← hsol]
    obtain ⟨D, hD⟩ : ∃ D, D = solI ⟨e, b, u⟩ day := ⟨_, rfl⟩
    rw [← hD] at HX ⊢
    have HDD : Hid (solI x.sol day = D) := (by rw [hD, hsol] : solI x.sol day = D)
    obtain ⟨dy, dm, dd⟩ := D
    have HMo := Lib.hid hmoon
    clear hD hsol hso hs hd hmoon
    go_enter Tryz.func79, Tryz.ntmps79
    (have c0 := gz.cell 0; have c1 := gz.cell 1; have c2 := gz.cell 2; have c3 := gz.cell 3; have c4 := gz.cell 4; simp at c0 c1 c2 c3 c4)
    go_upto_region 2 with fail
    obtain ⟨b2, hb2⟩ : ∃ b, b = w.heap.size := ⟨_, rfl⟩
    rw [← hb2]
    refine gen_w (fun W => w.grownBy W (some z) ∧ Blk W z (lkv A day (.pointer none) mv M) 123 ∧ Blk W A #[.slice x.a x.cycles.length x.c, .int .i64 e, .int .i64 b, .int .i64 u, .int .i64 x.lun.d, .int .i64 x.lun.p, .int .i64 x.lun.f, .int .i64 x.lun.m, .int .i64 x.lun.y, .int .i64 x.lun.s, .int .i64 x.lun.l] 28 ∧ Blk W b2 #[.int .i64 0, .int .i64 0, .int .i64 0] 54) ⟨grownZ z ((Below.refl _ _).alloc (Nat.le_refl _) _), gz.alloc _, ga.alloc _, Blk.at_ hb2⟩ ?_
    have hb2w : w.heap.size ≤ b2 := by omega
    clear hb2
    clear gz ga c0 c1 c2 c3 c4
    rintro V ⟨hV, gz, ga, g2⟩
    have hS : ∀ W, Below V.heap.size V W → W.cell? ⟨z, 0, none⟩ = some (.pointer (some ⟨A, 0, none⟩)) ∧ W.cell? ⟨z, 1, none⟩ = some (.int .i64 day) ∧ W.cell? ⟨A, 1, none⟩ = some (.int .i64 e) ∧ W.cell? ⟨A, 2, none⟩ = some (.int .i64 b) ∧ W.cell? ⟨A, 3, none⟩ = some (.int .i64 u) := fun W hW => by
      have gz := gz.below hW gz.lt
      have ga := ga.below hW ga.lt
      have c0 := gz.cell 0; have c1 := gz.cell 1; have a1 := ga.cell 1; have a2 := ga.cell 2; have a3 := ga.cell 3
      simp at c0 c1 a1 a2 a3
      exact ⟨c0, c1, a1, a2, a3⟩
    refine' wp_region_plan 13 [12, 11, 10, 9, 8, 7, 6, 5, 4, 3, 2, 1, 0] [.eff, .eff, .eff, .eff, .eff, .eff, .eff, .eff, .eff, .eff, .eff, .eff, .eff, .last] [Det _, Det _, Det _, Det _, Det _, Det _, Det _, Det _, Det _, Det _, Det _, Det (.agg #[.int .i64 dy, .int .i64 dm, .int .i64 dd]), fun v W => ∃ b9, v = .pointer (some ⟨b9, 0, none⟩) ∧ Blk W b9 #[.int .i64 0, .int .i64 0, .int .i64 0] 54 ∧ V.heap.size ≤ b9, noF] (by rfl) [(12, 3), (11, 20)] [(12, 3), (11, 20), (10, 19), (9, 18), (8, 17), (7, 16), (6, 15), (5, 14), (4, 13), (3, 12), (2, 11), (1, 10), (0, 9)] (by kernel_rfl) (by kernel_rfl) (by kernel_rfl) (by kernel_rfl) (by kernel_rfl) (by kernel_rfl) (by kernel_rfl) (by kernel_rfl) (by kernel_rfl) rfl ?hp ?hend ?hst
    case hp =>
      refine And.intro ⟨[], by kernel_rfl, fun xs W hW hf K hK => opV_free rfl ?_⟩ ?_
      focus (have hs := hS W hW; (try simp only [factsL, pickF, Det, and_true] at hf); (try simp only [putL, Act.put, List.setIfInBounds_toArray, List.set_cons_zero, List.set_cons_succ]); (try simp only [hf]); go_simp; refine hK.out _ _ (Below.refl _ _) ?_; unfold Det; rfl)
      refine And.intro ⟨[(0, 9)], by kernel_rfl, fun xs W hW hf K hK => opV_free rfl ?_⟩ ?_
      focus (have hs := hS W hW; (try simp only [factsL, pickF, Det, and_true] at hf); (try simp only [putL, Act.put, List.setIfInBounds_toArray, List.set_cons_zero, List.set_cons_succ]); (try simp only [hf]); go_simp; refine hK.out _ _ (Below.refl _ _) ?_; unfold Det; rfl)
      refine And.intro ⟨[(1, 10)], by kernel_rfl, fun xs W hW hf K hK => opV_free rfl ?_⟩ ?_
      focus (have hs := hS W hW; (try simp only [factsL, pickF, Det, and_true] at hf); (try simp only [putL, Act.put, List.setIfInBounds_toArray, List.set_cons_zero, List.set_cons_succ]); (try simp only [hf]); go_simp; refine hK.out _ _ (Below.refl _ _) ?_; unfold Det; rfl)
      refine And.intro ⟨[(2, 11)], by kernel_rfl, fun xs W hW hf K hK => opV_free rfl ?_⟩ ?_
      focus (have hs := hS W hW; (try simp only [factsL, pickF, Det, and_true] at hf); (try simp only [putL, Act.put, List.setIfInBounds_toArray, List.set_cons_zero, List.set_cons_succ]); (try simp only [hf]); go_simp; refine hK.out _ _ (Below.refl _ _) ?_; unfold Det; rfl)
      refine And.intro ⟨[(3, 12)], by kernel_rfl, fun xs W hW hf K hK => opV_free rfl ?_⟩ ?_
      focus (have hs := hS W hW; (try simp only [factsL, pickF, Det, and_true] at hf); (try simp only [putL, Act.put, List.setIfInBounds_toArray, List.set_cons_zero, List.set_cons_succ]); (try simp only [hf]); go_simp; refine hK.out _ _ (Below.refl _ _) ?_; unfold Det; rfl)
      refine And.intro ⟨[(4, 13)], by kernel_rfl, fun xs W hW hf K hK => opV_free rfl ?_⟩ ?_
      focus (have hs := hS W hW; (try simp only [factsL, pickF, Det, and_true] at hf); (try simp only [putL, Act.put, List.setIfInBounds_toArray, List.set_cons_zero, List.set_cons_succ]); (try simp only [hf]); go_simp; refine hK.out _ _ (Below.refl _ _) ?_; unfold Det; rfl)
      refine And.intro ⟨[(5, 14)], by kernel_rfl, fun xs W hW hf K hK => opV_free rfl ?_⟩ ?_
      focus (have hs := hS W hW; (try simp only [factsL, pickF, Det, and_true] at hf); (try simp only [putL, Act.put, List.setIfInBounds_toArray, List.set_cons_zero, List.set_cons_succ]); (try simp only [hf]); go_simp; refine hK.out _ _ (Below.refl _ _) ?_; unfold Det; rfl)
      refine And.intro ⟨[], by kernel_rfl, fun xs W hW hf K hK => opV_free rfl ?_⟩ ?_
      focus (have hs := hS W hW; (try simp only [factsL, pickF, Det, and_true] at hf); (try simp only [putL, Act.put, List.setIfInBounds_toArray, List.set_cons_zero, List.set_cons_succ]); (try simp only [hf]); go_simp; refine hK.out _ _ (Below.refl _ _) ?_; unfold Det; rfl)
      refine And.intro ⟨[(7, 16)], by kernel_rfl, fun xs W hW hf K hK => opV_free rfl ?_⟩ ?_
      focus (have hs := hS W hW; (try simp only [factsL, pickF, Det, and_true] at hf); (try simp only [putL, Act.put, List.setIfInBounds_toArray, List.set_cons_zero, List.set_cons_succ]); (try simp only [hf]); go_simp; refine hK.out _ _ (Below.refl _ _) ?_; unfold Det; rfl)
      refine And.intro ⟨[(8, 17)], by kernel_rfl, fun xs W hW hf K hK => opV_free rfl ?_⟩ ?_
      focus (have hs := hS W hW; (try simp only [factsL, pickF, Det, and_true] at hf); (try simp only [putL, Act.put, List.setIfInBounds_toArray, List.set_cons_zero, List.set_cons_succ]); (try simp only [hf]); go_simp; refine hK.out _ _ (Below.refl _ _) ?_; unfold Det; rfl)
      refine And.intro ⟨[(9, 18)], by kernel_rfl, fun xs W hW hf K hK => opV_free rfl ?_⟩ ?_
      focus (have hs := hS W hW; (try simp only [factsL, pickF, Det, and_true] at hf); (try simp only [putL, Act.put, List.setIfInBounds_toArray, List.set_cons_zero, List.set_cons_succ]); (try simp only [hf]); go_simp; refine hK.out _ _ (Below.refl _ _) ?_; unfold Det; rfl)
      refine And.intro ⟨[(10, 19), (6, 15)], by kernel_rfl, fun xs W hW hf K hK => opV_free rfl ?_⟩ ?_
      focus (simp only [factsL, pickF, Det, and_true] at hf; (try simp only [putL, Act.put, List.setIfInBounds_toArray, List.set_cons_zero, List.set_cons_succ]); (try simp only [hf]); go_simp; refine (HX.out _).mono ?_; rintro _ w9 ⟨rfl, hbw⟩; exact ⟨_, rfl, hK.out _ _ hbw rfl⟩)
      refine And.intro ⟨[], by kernel_rfl, fun xs W hW hf K hK => opV_free rfl ?_⟩ ?_
      focus (go_simp; exact hK.out _ _ ((Below.refl _ _).alloc (Nat.le_refl _) _) ⟨_, rfl, Blk.new _ _ _, hW.size⟩)
      trivial
    case hst => exact ⟨det_stays, det_stays, det_stays, det_stays, det_stays, det_stays, det_stays, det_stays, det_stays, det_stays, det_stays, det_stays, box_stays, noF_stays, trivial⟩
    case hend =>
      intro xs W hW hf
      simp only [factsA, Det, noF, Nat.zero_add, Nat.reduceAdd, and_true] at hf
      obtain ⟨f0, f1, f2, f3, f4, f5, f6, f7, f8, f9, f10, f11, b9, f12, hB, hz9⟩ := hf
      refine opV_free rfl ?_
      (simp only [putL, Act.put, upd, List.setIfInBounds_toArray, List.set_cons_zero, List.set_cons_succ])
      simp only [f0, f1, f2, f3, f4, f5, f6, f7, f8, f9, f10, f11, f12]
      have hB0 := hB.free 0; have hB1 := hB.free 1; have hB2 := hB.free 2
      have hC0 := hB.cell 0; have hC1 := hB.cell 1; have hC2 := hB.cell 2
      simp at hC0 hC1 hC2
      go_simp
      have hz9' : w.heap.size ≤ b9 := Nat.le_trans hV.size hz9
      have hzlt := gz.lt
      have h2lt := g2.lt
      refine gen_w (fun X => w.grownBy X (some z) ∧ Blk X z (lkv A day (.pointer none) mv M) 123 ∧ Blk X b2 #[.int .i64 0, .int .i64 0, .int .i64 0] 54 ∧ Blk X b9 #[.int .i64 dy, .int .i64 dm, .int .i64 dd] 54)
        ⟨grown_setN (grown_setN (grown_setN (grown_below hV hW) hz9' _) hz9' _) hz9' _, (((gz.below hW gz.lt).far _ (by show z ≠ b9; omega) _).far _ (by show z ≠ b9; omega) _).far _ (by show z ≠ b9; omega) _, (((g2.below hW g2.lt).far _ (by show b2 ≠ b9; omega) _).far _ (by show b2 ≠ b9; omega) _).far _ (by show b2 ≠ b9; omega) _, blk3 hB _ _ _⟩ ?_
      have hne : b9 ≠ z := by omega
      have hne2 : b9 ≠ b2 := by omega
      have hz2 : z ≠ b2 := by omega
      clear hS gz g2 ga hB hB0 hB1 hB2 hC0 hC1 hC2 f0 f1 f2 f3 f4 f5 f6 f7 f8 f9 f10 f11 f12 hW hV hz9 hzlt h2lt
      rintro X ⟨hX, gz, g2, g9⟩
      have c2 := gz.cell 2; have y2 := gz.free 2
      simp at c2
      have gz2 := gz.set 2 (.pointer (some ⟨b9, 0, none⟩))
      go_upto_region 4 with fail
      refine gen_w (fun X => w.grownBy X (some z) ∧ Blk X z (lkv A day (.pointer (some ⟨b9, 0, none⟩)) mv M) 123 ∧ Blk X b2 #[.int .i64 0, .int .i64 0, .int .i64 0] 54 ∧ Blk X b9 #[.int .i64 dy, .int .i64 dm, .int .i64 dd] 54)
        ⟨grown_setZ hX _, by simpa using gz2, g2.far _ (by show b2 ≠ z; omega) _, g9.far _ (by show b9 ≠ z; omega) _⟩ ?_
      clear hX gz g2 g9 gz2 c2 y2
      rintro Y ⟨hY, gz, g2, g9⟩
      have c2 := gz.cell 2; have n0 := g9.cell 0; have n1 := g9.cell 1; have n2 := g9.cell 2
      have r0 := g2.cell 0; have r1 := g2.cell 1; have r2 := g2.cell 2; have s0 := g2.free 0; have s1 := g2.free 1; have s2 := g2.free 2
      simp at c2 n0 n1 n2 r0 r1 r2
      have q3 := blk3 g2 (.int .i64 dy) (.int .i64 dm) (.int .i64 dd)
      have k0 := q3.cell 0; have k1 := q3.cell 1; have k2 := q3.cell 2
      simp at k0 k1 k2
      have hgz := (((gz.far ⟨b2, 0, none⟩ hz2 (.int .i64 dy)).far ⟨b2, 1, none⟩ hz2 (.int .i64 dm)).far ⟨b2, 2, none⟩ hz2 (.int .i64 dd))
      have hgr := grown_setN (i := 2) (grown_setN (i := 1) (grown_setN (i := 0) hY hb2w (.int .i64 dy)) hb2w (.int .i64 dm)) hb2w (.int .i64 dd)
      have HMM := HMo.out.grown hgr
      go_wp2_with fail
      refine bodyPost_ret (v := .agg #[.int .i64 dy, .int .i64 dm, .int .i64 dd]) (by simp [results, Tryz.results79, go_sem, k0, k1, k2]) rfl ?_
      exact ⟨rfl, hgr, _, _, hgz, .inr ⟨b9, rfl, hne, by rw [HDD.out]; exact ((g9.far _ hne2 _).far _ hne2 _).far _ hne2 _⟩, HMM⟩
  · have hsz := gb.lt
    have HMo := Lib.hid hmoon
    have hY : w.grownBy w (some z) := grownZ z (Below.refl _ _)
    obtain ⟨D, hD⟩ : ∃ D, D = solI x.sol day := ⟨_, rfl⟩
    have HDD := Lib.hid hD.symm
    rw [← hD] at gb ⊢
    obtain ⟨dy, dm, dd⟩ := D
    simp only [SDate.cells] at gb ⊢
    clear hs hd hmoon hD hso
    obtain ⟨b9, hb9⟩ : ∃ n, n = b := ⟨_, rfl⟩
    rw [← hb9] at gb gz
    rw [← hb9] at hbz hsz
    clear hb9
    go_enter Tryz.func79, Tryz.ntmps79
    (have c0 := gz.cell 0; have c1 := gz.cell 1; have c2 := gz.cell 2; have c3 := gz.cell 3; have c4 := gz.cell 4; simp at c0 c1 c2 c3 c4)
    go_upto_region 4 with fail
    obtain ⟨b2, hb2⟩ : ∃ b, b = w.heap.size := ⟨_, rfl⟩
    rw [← hb2]
    refine gen_w (fun W => w.grownBy W (some z) ∧ Blk W z (lkv A day (.pointer (some ⟨b9, 0, none⟩)) mv M) 123 ∧ Blk W b2 #[.int .i64 0, .int .i64 0, .int .i64 0] 54 ∧ Blk W b9 #[.int .i64 dy, .int .i64 dm, .int .i64 dd] 54) ⟨grownZ z ((Below.refl _ _).alloc (Nat.le_refl _) _), gz.alloc _, Blk.at_ hb2, gb.alloc _⟩ ?_
    have hb2w : w.heap.size ≤ b2 := by omega
    have hne2 : b9 ≠ b2 := by omega
    have hz2 : z ≠ b2 := by omega
    clear hb2 gz gb hY
    clear c0 c1 c2 c3 c4
    rintro Y ⟨hY, gz, g2, g9⟩
    have c2 := gz.cell 2; have n0 := g9.cell 0; have n1 := g9.cell 1; have n2 := g9.cell 2
    have r0 := g2.cell 0; have r1 := g2.cell 1; have r2 := g2.cell 2; have s0 := g2.free 0; have s1 := g2.free 1; have s2 := g2.free 2
    simp at c2 n0 n1 n2 r0 r1 r2
    have q3 := blk3 g2 (.int .i64 dy) (.int .i64 dm) (.int .i64 dd)
    have k0 := q3.cell 0; have k1 := q3.cell 1; have k2 := q3.cell 2
    simp at k0 k1 k2
    have hgz := (((gz.far ⟨b2, 0, none⟩ hz2 (.int .i64 dy)).far ⟨b2, 1, none⟩ hz2 (.int .i64 dm)).far ⟨b2, 2, none⟩ hz2 (.int .i64 dd))
    have hgr := grown_setN (i := 2) (grown_setN (i := 1) (grown_setN (i := 0) hY hb2w (.int .i64 dy)) hb2w (.int .i64 dm)) hb2w (.int .i64 dd)
    have HMM := HMo.out.grown hgr
    go_wp2_with fail
    refine bodyPost_ret (v := .agg #[.int .i64 dy, .int .i64 dm, .int .i64 dd]) (by simp [results, Tryz.results79, go_sem, k0, k1, k2]) rfl ?_
    exact ⟨rfl, hgr, _, _, hgz, .inr ⟨b9, rfl, hbz, by rw [HDD.out]; exact ((g9.far _ hne2 _).far _ hne2 _).far _ hne2 _⟩, HMM⟩
end Go.Proofs.YtfbnllmmoaialaaGreat
namespace Go.Proofs.YtfbnllmmoaialaaGreat
open Go.RowKit

set_option maxRecDepth 100000 in
set_option maxHeartbeats 2000000 in
theorem byMoon_any (x : Alm) (z A f0 M : Nat) (day : Int) (w : World) (hx : almB x = true) (d0 : 0 ≤ day) (d1 : day ≤ 1000000) (hs : LkS x z A f0 M w) (hd : LkD x z A M day w w) :
    Calls Tryz.prog 82 #[.pointer (some ⟨z, 0, none⟩)] w fun e w' => e = .returned (.agg (moonI x.lun day).cells.toArray) ∧ LkD x z A M day w w' := by
  obtain ⟨sv, mv, gz, hmoon, hsun⟩ := hd.at_
  simp only [almB, Bool.and_eq_true] at hx
  obtain ⟨-, hso⟩ := hx
  have hA := hs.la
  have hlz := hs.lz
  rcases hsun with rfl | ⟨b, rfl, hbz, gb⟩
  · obtain ⟨lun, hsol⟩ : ∃ s, s = x.lun := ⟨_, rfl⟩
    obtain ⟨d, p, f, m, y, s, l⟩ := lun
    rw [← hsol] at hso
    have HX := Lib.hid (fun W => lunar_any d p f m y s l day W (lunB_iff.1 hso) d0 (by omega))
    have ga : Blk w A #[.slice x.a x.cycles.length x.c, .int .i64 x.sol.e, .int .i64 x.sol.b, .int .i64 x.sol.u, .int .i64 d, .int .i64 p, .int .i64 f, .int .i64 m, .int .i64 y, .int .i64 s, .int .i64 l] 28 := by
      have h := hs.alm
      simp only [Alm.cells, ← hsol] at h
      exact h
    rw [← hsol]
    obtain ⟨D, hD⟩ : ∃ D, D = moonI ⟨d, p, f, m, y, s, l⟩ day := ⟨_, rfl⟩
    rw [← hD] at HX ⊢
    have HDD : Hid (moonI x.lun day = D) := (by rw [hD, hsol] : moonI x.lun day = D)
    obtain ⟨dy, dm, dd, dk⟩ := D
    have HMo := Lib.hid hmoon
    clear hD hsol hso hs hd hmoon
    go_enter Tryz.func82, Tryz.ntmps82
    (have c0 := gz.cell 0; have c1 := gz.cell 1; have c2 := gz.cell 2; have c3 := gz.cell 3; have c4 := gz.cell 4; simp at c0 c1 c2 c3 c4)
    go_upto_region 2 with fail
    obtain ⟨b2, hb2⟩ : ∃ b, b = w.heap.size := ⟨_, rfl⟩
    rw [← hb2]
    refine gen_w (fun W => w.grownBy W (some z) ∧ Blk W z (lkv A day sv (.pointer none) M) 123 ∧ Blk W A #[.slice x.a x.cycles.length x.c, .int .i64 x.sol.e, .int .i64 x.sol.b, .int .i64 x.sol.u, .int .i64 d, .int .i64 p, .int .i64 f, .int .i64 m, .int .i64 y, .int .i64 s, .int .i64 l] 28 ∧ Blk W b2 #[.int .i64 0, .int .i64 0, .int .i64 0, .bool false] 59) ⟨grownZ z ((Below.refl _ _).alloc (Nat.le_refl _) _), gz.alloc _, ga.alloc _, Blk.at_ hb2⟩ ?_
    have hb2w : w.heap.size ≤ b2 := by omega
    clear hb2
    clear gz ga c0 c1 c2 c3 c4
    rintro V ⟨hV, gz, ga, g2⟩
    have hS : ∀ W, Below V.heap.size V W → W.cell? ⟨z, 0, none⟩ = some (.pointer (some ⟨A, 0, none⟩)) ∧ W.cell? ⟨z, 1, none⟩ = some (.int .i64 day) ∧ W.cell? ⟨A, 4, none⟩ = some (.int .i64 d) ∧ W.cell? ⟨A, 5, none⟩ = some (.int .i64 p) ∧ W.cell? ⟨A, 6, none⟩ = some (.int .i64 f) ∧ W.cell? ⟨A, 7, none⟩ = some (.int .i64 m) ∧ W.cell? ⟨A, 8, none⟩ = some (.int .i64 y) ∧ W.cell? ⟨A, 9, none⟩ = some (.int .i64 s) ∧ W.cell? ⟨A, 10, none⟩ = some (.int .i64 l) := fun W hW => by
      have gz := gz.below hW gz.lt
      have ga := ga.below hW ga.lt
      have c0 := gz.cell 0; have c1 := gz.cell 1; have a4 := ga.cell 4; have a5 := ga.cell 5; have a6 := ga.cell 6; have a7 := ga.cell 7; have a8 := ga.cell 8; have a9 := ga.cell 9; have a10 := ga.cell 10
      simp at c0 c1 a4 a5 a6 a7 a8 a9 a10
      exact ⟨c0, c1, a4, a5, a6, a7, a8, a9, a10⟩
    refine' wp_region_plan 13 [12, 11, 10, 9, 8, 7, 6, 5, 4, 3, 2, 1, 0] [.eff, .eff, .eff, .eff, .eff, .eff, .eff, .eff, .eff, .eff, .eff, .eff, .eff, .last] [Det _, Det _, Det _, Det _, Det _, Det _, Det _, Det _, Det _, Det _, Det _, Det (.agg #[.int .i64 dy, .int .i64 dm, .int .i64 dd, .bool dk]), fun v W => ∃ b9, v = .pointer (some ⟨b9, 0, none⟩) ∧ Blk W b9 #[.int .i64 0, .int .i64 0, .int .i64 0, .bool false] 59 ∧ V.heap.size ≤ b9, noF] (by rfl) [(12, 3), (11, 20)] [(12, 3), (11, 20), (10, 19), (9, 18), (8, 17), (7, 16), (6, 15), (5, 14), (4, 13), (3, 12), (2, 11), (1, 10), (0, 9)] (by kernel_rfl) (by kernel_rfl) (by kernel_rfl) (by kernel_rfl) (by kernel_rfl) (by kernel_rfl) (by kernel_rfl) (by kernel_rfl) (by kernel_rfl) rfl ?hp ?hend ?hst
    case hp =>
      refine And.intro ⟨[], by kernel_rfl, fun xs W hW hf K hK => opV_free rfl ?_⟩ ?_
      focus (have hs := hS W hW; (try simp only [factsL, pickF, Det, and_true] at hf); (try simp only [putL, Act.put, List.setIfInBounds_toArray, List.set_cons_zero, List.set_cons_succ]); (try simp only [hf]); go_simp; refine hK.out _ _ (Below.refl _ _) ?_; unfold Det; rfl)
      refine And.intro ⟨[(0, 9)], by kernel_rfl, fun xs W hW hf K hK => opV_free rfl ?_⟩ ?_
      focus (have hs := hS W hW; (try simp only [factsL, pickF, Det, and_true] at hf); (try simp only [putL, Act.put, List.setIfInBounds_toArray, List.set_cons_zero, List.set_cons_succ]); (try simp only [hf]); go_simp; refine hK.out _ _ (Below.refl _ _) ?_; unfold Det; rfl)
      refine And.intro ⟨[(1, 10)], by kernel_rfl, fun xs W hW hf K hK => opV_free rfl ?_⟩ ?_
      focus (have hs := hS W hW; (try simp only [factsL, pickF, Det, and_true] at hf); (try simp only [putL, Act.put, List.setIfInBounds_toArray, List.set_cons_zero, List.set_cons_succ]); (try simp only [hf]); go_simp; refine hK.out _ _ (Below.refl _ _) ?_; unfold Det; rfl)
      refine And.intro ⟨[(2, 11)], by kernel_rfl, fun xs W hW hf K hK => opV_free rfl ?_⟩ ?_
      focus (have hs := hS W hW; (try simp only [factsL, pickF, Det, and_true] at hf); (try simp only [putL, Act.put, List.setIfInBounds_toArray, List.set_cons_zero, List.set_cons_succ]); (try simp only [hf]); go_simp; refine hK.out _ _ (Below.refl _ _) ?_; unfold Det; rfl)
      refine And.intro ⟨[(3, 12)], by kernel_rfl, fun xs W hW hf K hK => opV_free rfl ?_⟩ ?_
      focus (have hs := hS W hW; (try simp only [factsL, pickF, Det, and_true] at hf); (try simp only [putL, Act.put, List.setIfInBounds_toArray, List.set_cons_zero, List.set_cons_succ]); (try simp only [hf]); go_simp; refine hK.out _ _ (Below.refl _ _) ?_; unfold Det; rfl)
      refine And.intro ⟨[(4, 13)], by kernel_rfl, fun xs W hW hf K hK => opV_free rfl ?_⟩ ?_
      focus (have hs := hS W hW; (try simp only [factsL, pickF, Det, and_true] at hf); (try simp only [putL, Act.put, List.setIfInBounds_toArray, List.set_cons_zero, List.set_cons_succ]); (try simp only [hf]); go_simp; refine hK.out _ _ (Below.refl _ _) ?_; unfold Det; rfl)
      refine And.intro ⟨[(5, 14)], by kernel_rfl, fun xs W hW hf K hK => opV_free rfl ?_⟩ ?_
      focus (have hs := hS W hW; (try simp only [factsL, pickF, Det, and_true] at hf); (try simp only [putL, Act.put, List.setIfInBounds_toArray, List.set_cons_zero, List.set_cons_succ]); (try simp only [hf]); go_simp; refine hK.out _ _ (Below.refl _ _) ?_; unfold Det; rfl)
      refine And.intro ⟨[], by kernel_rfl, fun xs W hW hf K hK => opV_free rfl ?_⟩ ?_
      focus (have hs := hS W hW; (try simp only [factsL, pickF, Det, and_true] at hf); (try simp only [putL, Act.put, List.setIfInBounds_toArray, List.set_cons_zero, List.set_cons_succ]); (try simp only [hf]); go_simp; refine hK.out _ _ (Below.refl _ _) ?_; unfold Det; rfl)
      refine And.intro ⟨[(7, 16)], by kernel_rfl, fun xs W hW hf K hK => opV_free rfl ?_⟩ ?_
      focus (have hs := hS W hW; (try simp only [factsL, pickF, Det, and_true] at hf); (try simp only [putL, Act.put, List.setIfInBounds_toArray, List.set_cons_zero, List.set_cons_succ]); (try simp only [hf]); go_simp; refine hK.out _ _ (Below.refl _ _) ?_; unfold Det; rfl)
      refine And.intro ⟨[(8, 17)], by kernel_rfl, fun xs W hW hf K hK => opV_free rfl ?_⟩ ?_
      focus (have hs := hS W hW; (try simp only [factsL, pickF, Det, and_true] at hf); (try simp only [putL, Act.put, List.setIfInBounds_toArray, List.set_cons_zero, List.set_cons_succ]); (try simp only [hf]); go_simp; refine hK.out _ _ (Below.refl _ _) ?_; unfold Det; rfl)
      refine And.intro ⟨[(9, 18)], by kernel_rfl, fun xs W hW hf K hK => opV_free rfl ?_⟩ ?_
      focus (have hs := hS W hW; (try simp only [factsL, pickF, Det, and_true] at hf); (try simp only [putL, Act.put, List.setIfInBounds_toArray, List.set_cons_zero, List.set_cons_succ]); (try simp only [hf]); go_simp; refine hK.out _ _ (Below.refl _ _) ?_; unfold Det; rfl)
      refine And.intro ⟨[(10, 19), (6, 15)], by kernel_rfl, fun xs W hW hf K hK => opV_free rfl ?_⟩ ?_
      focus (simp only [factsL, pickF, Det, and_true] at hf; (try simp only [putL, Act.put, List.setIfInBounds_toArray, List.set_cons_zero, List.set_cons_succ]); (try simp only [hf]); go_simp; refine (HX.out _).mono ?_; rintro _ w9 ⟨rfl, hbw⟩; exact ⟨_, rfl, hK.out _ _ hbw rfl⟩)
      refine And.intro ⟨[], by kernel_rfl, fun xs W hW hf K hK => opV_free rfl ?_⟩ ?_
      focus (go_simp; exact hK.out _ _ ((Below.refl _ _).alloc (Nat.le_refl _) _) ⟨_, rfl, Blk.new _ _ _, hW.size⟩)
      trivial
    case hst => exact ⟨det_stays, det_stays, det_stays, det_stays, det_stays, det_stays, det_stays, det_stays, det_stays, det_stays, det_stays, det_stays, box_stays, noF_stays, trivial⟩
    case hend =>
      intro xs W hW hf
      simp only [factsA, Det, noF, Nat.zero_add, Nat.reduceAdd, and_true] at hf
      obtain ⟨f0, f1, f2, f3, f4, f5, f6, f7, f8, f9, f10, f11, b9, f12, hB, hz9⟩ := hf
      refine opV_free rfl ?_
      (simp only [putL, Act.put, upd, List.setIfInBounds_toArray, List.set_cons_zero, List.set_cons_succ])
      simp only [f0, f1, f2, f3, f4, f5, f6, f7, f8, f9, f10, f11, f12]
      have hB0 := hB.free 0; have hB1 := hB.free 1; have hB2 := hB.free 2; have hB3 := hB.free 3
      have hC0 := hB.cell 0; have hC1 := hB.cell 1; have hC2 := hB.cell 2; have hC3 := hB.cell 3
      simp at hC0 hC1 hC2 hC3
      go_simp
      have hz9' : w.heap.size ≤ b9 := Nat.le_trans hV.size hz9
      have hzlt := gz.lt
      have h2lt := g2.lt
      refine gen_w (fun X => w.grownBy X (some z) ∧ Blk X z (lkv A day sv (.pointer none) M) 123 ∧ Blk X b2 #[.int .i64 0, .int .i64 0, .int .i64 0, .bool false] 59 ∧ Blk X b9 #[.int .i64 dy, .int .i64 dm, .int .i64 dd, .bool dk] 59)
        ⟨grown_setN (grown_setN (grown_setN (grown_setN (grown_below hV hW) hz9' _) hz9' _) hz9' _) hz9' _, ((((gz.below hW gz.lt).far _ (by show z ≠ b9; omega) _).far _ (by show z ≠ b9; omega) _).far _ (by show z ≠ b9; omega) _).far _ (by show z ≠ b9; omega) _, ((((g2.below hW g2.lt).far _ (by show b2 ≠ b9; omega) _).far _ (by show b2 ≠ b9; omega) _).far _ (by show b2 ≠ b9; omega) _).far _ (by show b2 ≠ b9; omega) _, blk4 hB _ _ _ _⟩ ?_
      have hne : b9 ≠ z := by omega
      have hne2 : b9 ≠ b2 := by omega
      have hz2 : z ≠ b2 := by omega
      clear hS gz g2 ga hB hB0 hB1 hB2 hC0 hC1 hC2 hC3 hB3 f0 f1 f2 f3 f4 f5 f6 f7 f8 f9 f10 f11 f12 hW hV hz9 hzlt h2lt
      rintro X ⟨hX, gz, g2, g9⟩
      have c2 := gz.cell 3; have y2 := gz.free 3
      simp at c2
      have gz2 := gz.set 3 (.pointer (some ⟨b9, 0, none⟩))
      go_upto_region 4 with fail
      refine gen_w (fun X => w.grownBy X (some z) ∧ Blk X z (lkv A day sv (.pointer (some ⟨b9, 0, none⟩)) M) 123 ∧ Blk X b2 #[.int .i64 0, .int .i64 0, .int .i64 0, .bool false] 59 ∧ Blk X b9 #[.int .i64 dy, .int .i64 dm, .int .i64 dd, .bool dk] 59)
        ⟨grown_setZ hX _, by simpa using gz2, g2.far _ (by show b2 ≠ z; omega) _, g9.far _ (by show b9 ≠ z; omega) _⟩ ?_
      clear hX gz g2 g9 gz2 c2 y2
      rintro Y ⟨hY, gz, g2, g9⟩
      have c2 := gz.cell 3; have n0 := g9.cell 0; have n1 := g9.cell 1; have n2 := g9.cell 2; have n3 := g9.cell 3
      have r0 := g2.cell 0; have r1 := g2.cell 1; have r2 := g2.cell 2; have r3 := g2.cell 3; have s0 := g2.free 0; have s1 := g2.free 1; have s2 := g2.free 2; have s3 := g2.free 3
      simp at c2 n0 n1 n2 n3 r0 r1 r2 r3
      have q3 := blk4 g2 (.int .i64 dy) (.int .i64 dm) (.int .i64 dd) (.bool dk)
      have k0 := q3.cell 0; have k1 := q3.cell 1; have k2 := q3.cell 2; have k3 := q3.cell 3
      simp at k0 k1 k2 k3
      have hgz := ((((gz.far ⟨b2, 0, none⟩ hz2 (.int .i64 dy)).far ⟨b2, 1, none⟩ hz2 (.int .i64 dm)).far ⟨b2, 2, none⟩ hz2 (.int .i64 dd)).far ⟨b2, 3, none⟩ hz2 (.bool dk))
      have hgr := grown_setN (i := 3) (grown_setN (i := 2) (grown_setN (i := 1) (grown_setN (i := 0) hY hb2w (.int .i64 dy)) hb2w (.int .i64 dm)) hb2w (.int .i64 dd)) hb2w (.bool dk)
      have HMM := HMo.out.grown hgr
      go_wp2_with fail
      refine bodyPost_ret (v := .agg #[.int .i64 dy, .int .i64 dm, .int .i64 dd, .bool dk]) (by simp [results, Tryz.results82, go_sem, k0, k1, k2, k3]) rfl ?_
      exact ⟨rfl, hgr, _, _, hgz, HMM, .inr ⟨b9, rfl, hne, by rw [HDD.out]; exact (((g9.far _ hne2 _).far _ hne2 _).far _ hne2 _).far _ hne2 _⟩⟩
  · have hsz := gb.lt
    have HMo := Lib.hid hmoon
    have hY : w.grownBy w (some z) := grownZ z (Below.refl _ _)
    obtain ⟨D, hD⟩ : ∃ D, D = moonI x.lun day := ⟨_, rfl⟩
    have HDD := Lib.hid hD.symm
    rw [← hD] at gb ⊢
    obtain ⟨dy, dm, dd, dk⟩ := D
    simp only [LDate.cells] at gb ⊢
    clear hs hd hmoon hD hso
    obtain ⟨b9, hb9⟩ : ∃ n, n = b := ⟨_, rfl⟩
    rw [← hb9] at gb gz
    rw [← hb9] at hbz hsz
    clear hb9
    go_enter Tryz.func82, Tryz.ntmps82
    (have c0 := gz.cell 0; have c1 := gz.cell 1; have c2 := gz.cell 2; have c3 := gz.cell 3; have c4 := gz.cell 4; simp at c0 c1 c2 c3 c4)
    go_upto_region 4 with fail
    obtain ⟨b2, hb2⟩ : ∃ b, b = w.heap.size := ⟨_, rfl⟩
    rw [← hb2]
    refine gen_w (fun W => w.grownBy W (some z) ∧ Blk W z (lkv A day sv (.pointer (some ⟨b9, 0, none⟩)) M) 123 ∧ Blk W b2 #[.int .i64 0, .int .i64 0, .int .i64 0, .bool false] 59 ∧ Blk W b9 #[.int .i64 dy, .int .i64 dm, .int .i64 dd, .bool dk] 59) ⟨grownZ z ((Below.refl _ _).alloc (Nat.le_refl _) _), gz.alloc _, Blk.at_ hb2, gb.alloc _⟩ ?_
    have hb2w : w.heap.size ≤ b2 := by omega
    have hne2 : b9 ≠ b2 := by omega
    have hz2 : z ≠ b2 := by omega
    clear hb2 gz gb hY
    clear c0 c1 c2 c3 c4
    rintro Y ⟨hY, gz, g2, g9⟩
    have c2 := gz.cell 3; have n0 := g9.cell 0; have n1 := g9.cell 1; have n2 := g9.cell 2; have n3 := g9.cell 3
    have r0 := g2.cell 0; have r1 := g2.cell 1; have r2 := g2.cell 2; have r3 := g2.cell 3; have s0 := g2.free 0; have s1 := g2.free 1; have s2 := g2.free 2; have s3 := g2.free 3
    simp at c2 n0 n1 n2 n3 r0 r1 r2 r3
    have q3 := blk4 g2 (.int .i64 dy) (.int .i64 dm) (.int .i64 dd) (.bool dk)
    have k0 := q3.cell 0; have k1 := q3.cell 1; have k2 := q3.cell 2; have k3 := q3.cell 3
    simp at k0 k1 k2 k3
    have hgz := ((((gz.far ⟨b2, 0, none⟩ hz2 (.int .i64 dy)).far ⟨b2, 1, none⟩ hz2 (.int .i64 dm)).far ⟨b2, 2, none⟩ hz2 (.int .i64 dd)).far ⟨b2, 3, none⟩ hz2 (.bool dk))
    have hgr := grown_setN (i := 3) (grown_setN (i := 2) (grown_setN (i := 1) (grown_setN (i := 0) hY hb2w (.int .i64 dy)) hb2w (.int .i64 dm)) hb2w (.int .i64 dd)) hb2w (.bool dk)
    have HMM := HMo.out.grown hgr
    go_wp2_with fail
    refine bodyPost_ret (v := .agg #[.int .i64 dy, .int .i64 dm, .int .i64 dd, .bool dk]) (by simp [results, Tryz.results82, go_sem, k0, k1, k2, k3]) rfl ?_
    exact ⟨rfl, hgr, _, _, hgz, HMM, .inr ⟨b9, rfl, hbz, by rw [HDD.out]; exact (((g9.far _ hne2 _).far _ hne2 _).far _ hne2 _).far _ hne2 _⟩⟩
end Go.Proofs.YtfbnllmmoaialaaGreat
namespace Go.Proofs.YtfbnllmmoaialaaGreat

theorem atW_le {b p s n x : Int} (hb : 1 ≤ b) (hp : 1 ≤ p) : atW b p s n ≤ x ↔ n ≤ turnsW b p s x := by
  unfold atW turnsW
  rw [← Int.lt_add_one_iff (a := (b * n + s) / p), Int.ediv_lt_iff_lt_mul (by omega), Int.le_ediv_iff_mul_le (by omega), Int.mul_comm n b]
  omega
theorem atW_turns {b p s x : Int} (hb : 1 ≤ b) (hp : 1 ≤ p) : atW b p s (turnsW b p s x) ≤ x ∧ x < atW b p s (turnsW b p s x + 1) :=
  ⟨(atW_le hb hp).2 (Int.le_refl _), Int.lt_of_not_ge fun h => by have := (atW_le hb hp).1 h; omega⟩
theorem turnsW_is {b p s x n : Int} (hb : 1 ≤ b) (hp : 1 ≤ p) (h1 : atW b p s n ≤ x) (h2 : x < atW b p s (n + 1)) : turnsW b p s x = n := by
  have := (atW_le hb hp).1 h1
  have h3 : ¬ n + 1 ≤ turnsW b p s x := fun h => by have := (atW_le hb hp).2 h; omega
  omega
theorem atW_step {b p s n lo hi : Int} (hp : 1 ≤ p) (h1 : lo * p ≤ b) (h2 : b ≤ hi * p) : atW b p s n + lo ≤ atW b p s (n + 1) ∧ atW b p s (n + 1) ≤ atW b p s n + hi := by
  unfold atW
  have e : b * (n + 1) + s = b * n + s + b := by rw [Int.mul_add]; omega
  rw [e]
  constructor
  · rw [← Int.add_mul_ediv_right _ _ (show p ≠ 0 by omega)]
    exact Int.ediv_le_ediv (by omega) (by omega)
  · rw [← Int.add_mul_ediv_right _ _ (show p ≠ 0 by omega)]
    exact Int.ediv_le_ediv (by omega) (by omega)
theorem BI_step {r : Lun} (ok : LunOk r) (n : Int) : BI r n + 27 ≤ BI r (n + 1) ∧ BI r (n + 1) ≤ BI r n + 31 := by
  obtain ⟨p, d, f, y, m, s, l⟩ := ok
  exact atW_step p.1 d.1 d.2
theorem FI_step {r : Lun} (ok : LunOk r) (n : Int) : FI r n + 12 ≤ FI r (n + 1) ∧ FI r (n + 1) ≤ FI r n + 13 := by
  obtain ⟨p, d, f, y, m, s, l⟩ := ok
  exact atW_step y.1 m.1 m.2
theorem mI_spec {r : Lun} (ok : LunOk r) (d : Int) : BI r (mI r d) ≤ d ∧ d < BI r (mI r d + 1) := by
  obtain ⟨p, d', f, y, m, s, l⟩ := ok
  exact atW_turns (by omega) p.1
theorem yI_spec {r : Lun} (ok : LunOk r) (d : Int) : FI r (yI r d) ≤ mI r d ∧ mI r d < FI r (yI r d + 1) := by
  obtain ⟨p, d', f, y, m, s, l⟩ := ok
  exact atW_turns (by omega) y.1
theorem mI_is {r : Lun} (ok : LunOk r) {d n : Int} (h1 : BI r n ≤ d) (h2 : d < BI r (n + 1)) : mI r d = n := by
  obtain ⟨p, d', f, y, m, s, l⟩ := ok
  exact turnsW_is (by omega) p.1 h1 h2
theorem yI_is {r : Lun} (ok : LunOk r) {d y : Int} (h1 : FI r y ≤ mI r d) (h2 : mI r d < FI r (y + 1)) : yI r d = y := by
  obtain ⟨p, d', f, y', m, s, l⟩ := ok
  exact turnsW_is (by omega) y'.1 h1 h2
theorem longM_iff {r : Lun} {y : Int} : longM r y = true ↔ FI r (y + 1) - FI r y = 13 := by simp [longM]
theorem moonI_bd {r : Lun} (ok : LunOk r) {d : Int} : 1 ≤ (moonI r d).m ∧ (moonI r d).m ≤ 12 ∧ 1 ≤ (moonI r d).d ∧ (moonI r d).d ≤ 31 := by
  have h1 := mI_spec ok d
  have h2 := yI_spec ok d
  have h3 := BI_step ok (mI r d)
  have h4 := FI_step ok (yI r d)
  have h5 := ok.l
  unfold moonI
  split
  · rename_i h
    simp only [Bool.and_eq_true, decide_eq_true_eq] at h
    obtain ⟨h6, h7⟩ := h
    have h6 := longM_iff.1 h6
    have h0 : m0I r d = mI r d - FI r (yI r d) + 1 := rfl
    simp only
    omega
  · rename_i h
    simp only [Bool.and_eq_true, decide_eq_true_eq, not_and] at h
    have h0 : m0I r d = mI r d - FI r (yI r d) + 1 := rfl
    have h8 : m0I r d ≤ 12 := by
      by_cases hl : longM r (yI r d) = true
      · have := h hl; omega
      · have hne : FI r (yI r d + 1) - FI r (yI r d) ≠ 13 := fun h => hl (longM_iff.2 h)
        omega
    simp only
    omega
/-! by the sun -/
theorem walkM_spec : ∀ (l : List Int) (m d : Int), 1 ≤ d → d ≤ l.sum → ∃ k, ∃ hk : k < l.length, walkM l m d = (m + k, d - (l.take k).sum) ∧ 1 ≤ d - (l.take k).sum ∧ d - (l.take k).sum ≤ l[k]
  | [], m, d, h1, h2 => by simp at h2; omega
  | n :: l, m, d, h1, h2 => by
    by_cases hd : d ≤ n
    · exact ⟨0, by simp, by simp [walkM, hd], by simpa using h1, by simpa using hd⟩
    · obtain ⟨k, hk, e, a, b⟩ := walkM_spec l (m + 1) (d - n) (by omega) (by simp at h2; omega)
      refine ⟨k + 1, by simpa using hk, ?_, ?_, ?_⟩
      · rw [walkM, if_neg hd, e]
        simp only [List.take_succ_cons, List.sum_cons, Prod.mk.injEq]
        omega
      · simp only [List.take_succ_cons, List.sum_cons]; omega
      · simp only [List.take_succ_cons, List.sum_cons, List.getElem_cons_succ]; omega
theorem extraN_eq {r : Sol} (ok : SolOk r) {y : Int} (y0 : 0 ≤ y) : extraN r y = if longB r y then 1 else 0 := by
  have := begI_step ok y0
  unfold extraN
  rw [this]
  unfold yearN
  split <;> omega
theorem monL_sum (x : Int) : (monL x).sum = 365 + x := by simp [monL]; omega
theorem monL_bd {x : Int} (x0 : 0 ≤ x) (x1 : x ≤ 1) {k : Nat} (hk : k < (monL x).length) : 28 ≤ (monL x)[k] ∧ (monL x)[k] ≤ 31 := by
  have h : ∀ y ∈ monL x, 28 ≤ y ∧ y ≤ 31 := by
    intro y hy
    simp only [monL, List.mem_cons, List.not_mem_nil, or_false] at hy
    rcases hy with rfl | rfl | rfl | rfl | rfl | rfl | rfl | rfl | rfl | rfl | rfl | rfl <;> omega
  exact h _ (List.getElem_mem hk)
/-- the date of a day: the year begins not behind it, and it lies in the month -/
theorem solI_spec {r : Sol} (ok : SolOk r) {d : Int} (d0 : 0 ≤ d) (d1 : d ≤ 1000000) : ∃ (k : Nat) (hk : k < (monL (extraN r (yearI r d))).length), (solI r d).y = (yearI r d : Int) ∧ (solI r d).m = (k : Int) + 1 ∧ (solI r d).d = d - begI r (yearI r d) + 1 - ((monL (extraN r (yearI r d))).take k).sum ∧
    1 ≤ (solI r d).d ∧ (solI r d).d ≤ (monL (extraN r (yearI r d)))[k] := by
  obtain ⟨h1, h2, h3⟩ := yearI_spec ok d0 d1
  have hx : extraN r (yearI r d) = begI r ((yearI r d : Int) + 1) - begI r (yearI r d) - 365 := rfl
  obtain ⟨k, hk, e, a, b⟩ := walkM_spec (monL (extraN r (yearI r d))) 1 (d - begI r (yearI r d) + 1) (by omega) (by rw [monL_sum]; omega)
  refine ⟨k, hk, rfl, ?_, ?_, ?_, ?_⟩
  · show (walkM _ _ _).1 = _; rw [e]; simp only; omega
  · show (walkM _ _ _).2 = _; rw [e]
  · show 1 ≤ (walkM _ _ _).2; rw [e]; exact a
  · show (walkM _ _ _).2 ≤ _; rw [e]; exact b
theorem solI_bd {r : Sol} (ok : SolOk r) {d : Int} (d0 : 0 ≤ d) (d1 : d ≤ 1000000) : 1 ≤ (solI r d).m ∧ (solI r d).m ≤ 12 ∧ 1 ≤ (solI r d).d ∧ (solI r d).d ≤ 31 := by
  obtain ⟨k, hk, h1, h2, h3, h4, h5⟩ := solI_spec ok d0 d1
  have hx := extraN_eq ok (y := (yearI r d : Int)) (by omega)
  have := (monL_bd (x := extraN r (yearI r d)) (by rw [hx]; split <;> omega) (by rw [hx]; split <;> omega) (k := k) hk).2
  have hk : k < 12 := hk
  omega
end Go.Proofs.YtfbnllmmoaialaaGreat

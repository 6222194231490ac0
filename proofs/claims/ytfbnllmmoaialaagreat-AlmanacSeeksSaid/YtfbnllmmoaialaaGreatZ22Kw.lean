/- almanac: same; the examples' almanac and rules. -/
import Derived.Test.YtfbnllmmoaialaaGreatZ21RfB
import Derived.Test.YtfbnllmmoaialaaGreatZ16Bb
import Derived.Test.YtfbnllmmoaialaaGreatZ14Av
import Derived.Test.YtfbnllmmoaialaaGreatZ20He
import Derived.Deep.RegionHeld3
import Derived.Deep.DeepCutAuto
namespace Go.Proofs.YtfbnllmmoaialaaGreat
open Go.RowKit

set_option maxRecDepth 100000 in
set_option maxHeartbeats 1000000 in
theorem same_any (A1 A2 : Option Addr) (c1 c2 : Nat) (l1 l2 : List Int) (w : World) (h1 : l1.length ≤ 1000000) (h2 : l2.length ≤ 1000000) (hr1 : Sl intCell 1 w w.heap.size A1 l1) (hr2 : Sl intCell 1 w w.heap.size A2 l2) :
    Calls Tryz.prog 22 #[.slice A1 l1.length c1, .slice A2 l2.length c2] w fun e w' => e = .returned (.bool (decide (l1 = l2))) ∧ Below w.heap.size w w' := by
  by_cases hl : l1.length = l2.length
  · have HR1 := Lib.hid hr1; have HR2 := Lib.hid hr2; have HL := Lib.hid hl
    obtain ⟨n, hn⟩ : ∃ n, n = l1.length := ⟨_, rfl⟩
    rw [← hl, ← hn]
    have HN := Lib.hid hn
    have e1 : ((n : Int) != (n : Int)) = false := by simp
    have hn1 : n ≤ 1000000 := by omega
    clear hr1 hr2 hl hn h1 h2
    go_enter Tryz.func22, Tryz.ntmps22
    go_wp2_with fail
    go_loopw [5] (fun i wr => ∃ k : Nat, k ≤ n ∧ i = .int .i64 (k : Int) ∧ Hid (Below w.heap.size w wr) ∧ Hid (∀ j, j < k → l1[j]? = l2[j]?)) (fun i _ => n - (intOf i).toNat)
    case atStart => exact ⟨0, by omega, rfl, Below.refl _ _, fun j h => by omega⟩
    case round =>
      obtain ⟨k, hk, rfl, hb, hno⟩ := hrel
      by_cases hlt : k < n
      · have hk1 : k < l1.length := by have := HN.out; omega
        have hk2 : k < l2.length := by have := HL.out; omega
        obtain ⟨a, o, rfl, hb1', q1⟩ := (HR1.out.below hb.out).int_at hk1
        obtain ⟨a2, o2, rfl, hb2', q2⟩ := (HR2.out.below hb.out).int_at hk2
        obtain ⟨x, hx⟩ : ∃ x, x = l1[k] := ⟨_, rfl⟩
        obtain ⟨y, hy⟩ : ∃ y, y = l2[k] := ⟨_, rfl⟩
        rw [← hx] at q1
        rw [← hy] at q2
        have HX := Lib.hid hx; have HY := Lib.hid hy
        have d1 : decide ((k : Int) < (n : Int)) = true := by simp; omega
        have k0 : (0 : Int) ≤ (k : Int) := by omega
        have k1 : (k : Int) < (n : Int) := by omega
        clear hx hy
        by_cases he : x = y
        · have de : (x != y) = false := by simp [he]
          have HNN : Hid (∀ j, j < k + 1 → l1[j]? = l2[j]?) := fun j hj => by
            by_cases e : j = k
            · subst e; rw [List.getElem?_eq_getElem hk1, List.getElem?_eq_getElem hk2, ← HX.out, ← HY.out, he]
            · exact hno.out j (by omega)
          clear he
          go_upto_region 6 with fail
          (refine wp_region_ext (by kernel_rfl) (by kernel_rfl) ?_; (repeat (go_big_quiet_step(fail))); with_reducible refine wpQuiet_nil ?_; intro w1 hw1; have hb1 := ext_below hw1; clear hw1)
          have HB1 := Lib.hid hb1
          clear hb1
          go_wp2_with fail
          go_roundw
          case rel => exact ⟨k + 1, by omega, by go_num, hb.out.trans (HB1.out.mono hb.out.size), HNN⟩
          case measure => simp [intOf]; omega
        · have de : (x != y) = true := by simpa using he
          have HT : Hid (decide (l1 = l2) = false) := (by
            rw [decide_eq_false_iff_not]; intro e; apply he
            rw [HX.out, HY.out]; congr 1 : decide (l1 = l2) = false)
          clear he
          go_upto_region 6 with fail
          (refine wp_region_ext (by kernel_rfl) (by kernel_rfl) ?_; (repeat (go_big_quiet_step(fail))); with_reducible refine wpQuiet_nil ?_; intro w1 hw1; have hb1 := ext_below hw1; clear hw1)
          have HB1 := Lib.hid hb1
          clear hb1
          go_wp2_with fail
          go_ret
          exact ⟨ret_bool HT.out.symm, hb.out.trans (HB1.out.mono hb.out.size)⟩
      · obtain rfl : k = n := by omega
        have HT : Hid (decide (l1 = l2) = true) := (by
          rw [decide_eq_true_eq]
          refine List.ext_getElem? fun j => ?_
          by_cases hj : j < l1.length
          · exact hno.out j (by have := HN.out; omega)
          · rw [List.getElem?_eq_none (by omega), List.getElem?_eq_none (by have := HL.out; omega)] : decide (l1 = l2) = true)
        have d1 : decide ((k : Int) < (k : Int)) = false := by simp
        go_wp2_with fail
        go_ret
        exact ⟨ret_bool HT.out.symm, hb.out⟩
  · have e1 : ((l1.length : Int) != (l2.length : Int)) = true := by simp; omega
    have HT : Hid (decide (l1 = l2) = false) := (by rw [decide_eq_false_iff_not]; intro e; exact hl (by rw [e]) : decide (l1 = l2) = false)
    clear hr1 hr2 hl
    go_enter Tryz.func22, Tryz.ntmps22
    go_wp2_with fail
    go_ret
    exact ⟨ret_bool HT.out.symm, Below.refl _ _⟩
theorem usual_any (w : World) : Calls Tryz.prog 16 #[] w fun e w' => e = .returned (.agg #[.int .i64 4, .int .i64 100, .int .i64 400]) ∧ Below w.heap.size w w' := by
  go_enter Tryz.func16, Tryz.ntmps16
  go_wp2
  have g := Blk.new w #[.int .i64 4, .int .i64 100, .int .i64 400] 24
  have k0 := g.cell 0; have k1 := g.cell 1; have k2 := g.cell 2
  simp at k0 k1 k2
  refine bodyPost_ret (v := .agg #[.int .i64 4, .int .i64 100, .int .i64 400]) (by simp [results, Tryz.results16, go_sem, k0, k1, k2]) rfl ⟨rfl, by (repeat (first | exact Below.refl _ _ | assumption | (refine Below.alloc ?_ (by first | omega | (simp; omega) | (simp; done)) _) | (refine Below.setCell ?_ (by first | omega | (simp; omega) | (simp; done)) _) | (refine Below.drew ?_) | (refine belowN ?_ _) | (refine Below.trans ?_ (Below.mono ‹Below _ _ _› (by first | omega | (simp; omega) | (simp; done))))))⟩
theorem moons_any (w : World) : Calls Tryz.prog 18 #[] w fun e w' => e = .returned (.agg #[.int .i64 59, .int .i64 2, .int .i64 0, .int .i64 235, .int .i64 19, .int .i64 0, .int .i64 4]) ∧ Below w.heap.size w w' := by
  go_enter Tryz.func18, Tryz.ntmps18
  go_wp2
  have g := Blk.new w #[.int .i64 59, .int .i64 2, .int .i64 0, .int .i64 235, .int .i64 19, .int .i64 0, .int .i64 4] 26
  have k0 := g.cell 0; have k1 := g.cell 1; have k2 := g.cell 2; have k3 := g.cell 3; have k4 := g.cell 4; have k5 := g.cell 5; have k6 := g.cell 6
  simp at k0 k1 k2 k3 k4 k5 k6
  refine bodyPost_ret (v := .agg #[.int .i64 59, .int .i64 2, .int .i64 0, .int .i64 235, .int .i64 19, .int .i64 0, .int .i64 4]) (by simp [results, Tryz.results18, go_sem, k0, k1, k2, k3, k4, k5, k6]) rfl ⟨rfl, by (repeat (first | exact Below.refl _ _ | assumption | (refine Below.alloc ?_ (by first | omega | (simp; omega) | (simp; done)) _) | (refine Below.setCell ?_ (by first | omega | (simp; omega) | (simp; done)) _) | (refine Below.drew ?_) | (refine belowN ?_ _) | (refine Below.trans ?_ (Below.mono ‹Below _ _ _› (by first | omega | (simp; omega) | (simp; done))))))⟩
set_option maxRecDepth 100000 in
set_option maxHeartbeats 1000000 in
theorem week_any (w : World) : Calls Tryz.prog 19 #[] w fun e w' => ∃ bs, e = .returned (.agg (almK (some ⟨bs, 0, none⟩) 1).cells.toArray) ∧ Blk w' bs #[.int .i64 7, .int .i64 0] 52 ∧ Below w.heap.size w w' := by
  go_enter Tryz.func19, Tryz.ntmps19
  go_wp2_with (first | (go_at_call 16; refine (usual_any _).mono ?_; rintro _ W1 ⟨rfl, hb1⟩) | (go_at_call 18; refine (moons_any _).mono ?_; rintro _ W2 ⟨rfl, hb2⟩; refine Hid.out ?_; have hw2 : Below w.heap.size w W2 := bl2 (bl2 (by (repeat (first | exact Below.refl _ _ | assumption | (refine Below.alloc ?_ (by first | omega | (simp; omega) | (simp; done)) _) | (refine Below.setCell ?_ (by first | omega | (simp; omega) | (simp; done)) _) | (refine Below.drew ?_) | (refine belowN ?_ _) | (refine Below.trans ?_ (Below.mono ‹Below _ _ _› (by first | omega | (simp; omega) | (simp; done))))))) hb1) hb2; have gz : Blk W2 w.heap.size #[.slice none 0 0, .int .i64 0, .int .i64 0, .int .i64 0, .int .i64 0, .int .i64 0, .int .i64 0, .int .i64 0, .int .i64 0, .int .i64 0, .int .i64 0] 28 := (((Blk.at_ rfl).alloc _).below hb1 (by first | omega | (simp; omega) | (simp; done))).below hb2 (by have := hb1.size; simp at this; omega); have gs : Blk W2 (w.heap.size + 1) #[.int .i64 7, .int .i64 0] 52 := ((Blk.at_ (by simp)).below hb1 (by first | omega | (simp; omega) | (simp; done))).below hb2 (by have := hb1.size; simp at this; omega); have z0 := gz.cell 0; have z1 := gz.cell 1; have z2 := gz.cell 2; have z3 := gz.cell 3; have z4 := gz.cell 4; have z5 := gz.cell 5; have z6 := gz.cell 6; have z7 := gz.cell 7; have z8 := gz.cell 8; have z9 := gz.cell 9; have z10 := gz.cell 10; have y0 := gz.free 0; have y1 := gz.free 1; have y2 := gz.free 2; have y3 := gz.free 3; have y4 := gz.free 4; have y5 := gz.free 5; have y6 := gz.free 6; have y7 := gz.free 7; have y8 := gz.free 8; have y9 := gz.free 9; have y10 := gz.free 10; simp at z0 z1 z2 z3 z4 z5 z6 z7 z8 z9 z10; refine Lib.hid ?_))
  have g := (((((((((((gz.set 0 (.slice (some ⟨w.heap.size + 1, 0, none⟩) 1 1)).set 1 (.int .i64 4)).set 2 (.int .i64 100)).set 3 (.int .i64 400)).set 4 (.int .i64 59)).set 5 (.int .i64 2)).set 6 (.int .i64 0)).set 7 (.int .i64 235)).set 8 (.int .i64 19)).set 9 (.int .i64 0)).set 10 (.int .i64 4))
  simp only [List.setIfInBounds_toArray, List.set_cons_zero, List.set_cons_succ] at g
  have k0 := g.cell 0; have k1 := g.cell 1; have k2 := g.cell 2; have k3 := g.cell 3; have k4 := g.cell 4; have k5 := g.cell 5; have k6 := g.cell 6; have k7 := g.cell 7; have k8 := g.cell 8; have k9 := g.cell 9; have k10 := g.cell 10
  simp at k0 k1 k2 k3 k4 k5 k6 k7 k8 k9 k10
  refine bodyPost_ret (v := .agg #[.slice (some ⟨w.heap.size + 1, 0, none⟩) 1 1, .int .i64 4, .int .i64 100, .int .i64 400, .int .i64 59, .int .i64 2, .int .i64 0, .int .i64 235, .int .i64 19, .int .i64 0, .int .i64 4]) (by simp [results, Tryz.results19, go_sem, k0, k1, k2, k3, k4, k5, k6, k7, k8, k9, k10]) rfl ?_
  refine ⟨w.heap.size + 1, rfl, ?_, ?_⟩
  · (repeat (refine Blk.far ?_ _ (by show w.heap.size + 1 ≠ w.heap.size; omega) _)); exact gs
  · (repeat (refine Below.setCell ?_ (by show w.heap.size ≤ w.heap.size; omega) _)); exact hw2
theorem rest_any (w : World) : Calls Tryz.prog 20 #[] w fun e w' => ∃ A1 A2 br, e = .returned (.slice (some ⟨br, 0, none⟩) 2 2) ∧ RlsAt w' w'.heap.size (some ⟨br, 0, none⟩) (rulK A1 1 A2 1) ∧ Below w.heap.size w w' := by
  go_enter Tryz.func20, Tryz.ntmps20
  go_wp2
  go_ret
  refine ⟨some ⟨w.heap.size, 0, none⟩, some ⟨w.heap.size + 1, 0, none⟩, w.heap.size + 2, rfl, ⟨by simp [rulK], ?_, ?_⟩, by (repeat (first | exact Below.refl _ _ | assumption | (refine Below.alloc ?_ (by first | omega | (simp; omega) | (simp; done)) _) | (refine Below.setCell ?_ (by first | omega | (simp; omega) | (simp; done)) _) | (refine Below.drew ?_) | (refine belowN ?_ _) | (refine Below.trans ?_ (Below.mono ‹Below _ _ _› (by first | omega | (simp; omega) | (simp; done))))))⟩
  · refine sl_one (t := 48) (cs := #[.slice (some ⟨w.heap.size, 0, none⟩) 1 1, .bool true, .slice (some ⟨w.heap.size + 1, 0, none⟩) 1 1, .bool false]) (Blk.at_ (by simp)) rfl rfl
  · intro r hr
    simp only [rulK, List.mem_cons, List.not_mem_nil, or_false] at hr
    rcases hr with rfl | rfl
    · refine ⟨by simp, by simp, ?_⟩
      refine sl_one (t := 90) (cs := #[.int .i64 2, .int .i64 0, .int .u64 2, .int .i64 0, .int .i64 0]) (((Blk.at_ rfl).alloc _).alloc _) rfl rfl
    · refine ⟨by simp, by simp, ?_⟩
      refine sl_one (t := 90) (cs := #[.int .i64 1, .int .i64 0, .int .u64 96, .int .i64 0, .int .i64 0]) ((Blk.at_ (by simp)).alloc _) rfl rfl
end Go.Proofs.YtfbnllmmoaialaaGreat
namespace Go.Proofs.YtfbnllmmoaialaaGreat
open Go.RowKit

theorem meetK_any (a b : Nat) (w : World) (ha : Blk w a #[.int .i64 10, .int .i64 0, .int .i64 12, .int .i64 0] 52) (hb : Blk w b #[.int .i64 3, .int .i64 7] 3) :
    Calls Tryz.prog 14 #[.slice (some ⟨a, 0, none⟩) 2 2, .slice (some ⟨b, 0, none⟩) 2 2, .int .i64 0] w fun e w' => e = .returned (.tuple #[.int .i64 43, .int .i64 60, .int .i64 0]) ∧ Below w.heap.size w w' := by
  have h := meet_any (some ⟨a, 0, none⟩) 2 [⟨10, 0⟩, ⟨12, 0⟩] (some ⟨b, 0, none⟩) 2 [3, 7] 0 w (by simp) (by simp) (sl_one ha rfl rfl) (sl_one hb rfl rfl)
  rw [meet_k] at h
  exact h
theorem solarK_any (w : World) : Calls Tryz.prog 15 #[.agg #[.int .i64 4, .int .i64 100, .int .i64 400], .int .i64 59] w fun e w' => e = .returned (.tuple #[.agg #[.int .i64 0, .int .i64 2, .int .i64 29], .int .i64 0]) ∧ Below w.heap.size w w' := by
  have h := solarF_any 4 100 400 59 w
  rw [solar_k] at h
  exact h
theorem lunarK_any (w : World) : Calls Tryz.prog 17 #[.agg #[.int .i64 59, .int .i64 2, .int .i64 0, .int .i64 235, .int .i64 19, .int .i64 0, .int .i64 4], .int .i64 826] w fun e w' => e = .returned (.tuple #[.agg #[.int .i64 2, .int .i64 4, .int .i64 1, .bool true], .int .i64 0]) ∧ Below w.heap.size w w' := by
  have h := lunarF_any 59 2 0 235 19 0 4 826 w
  rw [lunar_k] at h
  exact h
theorem countK_any (bs : Nat) (A1 A2 : Option Addr) (br : Nat) (w : World) (hb : Blk w bs #[.int .i64 7, .int .i64 0] 52) (hr : RlsAt w w.heap.size (some ⟨br, 0, none⟩) (rulK A1 1 A2 1)) :
    Calls Tryz.prog 10 #[.agg (almK (some ⟨bs, 0, none⟩) 1).cells.toArray, .slice (some ⟨br, 0, none⟩) 2 2, .int .i64 0, .int .i64 40] w fun e w' => e = .returned (.tuple #[.int .i64 23, .int .i64 0]) ∧ Below w.heap.size w w' := by
  have h := countF_any (almK (some ⟨bs, 0, none⟩) 1) (some ⟨br, 0, none⟩) 2 (rulK A1 1 A2 1) 0 40 w (by simp) (sl_one hb rfl rfl) hr
  rw [count_k] at h
  exact h
theorem planK_any (bs : Nat) (A1 A2 : Option Addr) (br : Nat) (w : World) (hb : Blk w bs #[.int .i64 7, .int .i64 0] 52) (hr : RlsAt w w.heap.size (some ⟨br, 0, none⟩) (rulK A1 1 A2 1)) :
    Calls Tryz.prog 21 #[.agg (almK (some ⟨bs, 0, none⟩) 1).cells.toArray, .slice (some ⟨br, 0, none⟩) 2 2, .agg #[.int .i64 0, .int .i64 30], .agg #[.int .i64 5, .int .i64 6], .int .i64 3] w fun e w' => ∃ A c, e = .returned (.tuple #[.slice A 3 c, .int .i64 0]) ∧ Sl intCell 1 w' w'.heap.size A [2, 8, 14] ∧ Below w.heap.size w w' := by
  have h := plan_ok (almK (some ⟨bs, 0, none⟩) 1) (some ⟨br, 0, none⟩) 2 (rulK A1 1 A2 1) 0 30 5 6 3 w (by simp) (sl_one hb rfl rfl) hr (both_k _ _ _ _ _ _) (by kernel_rfl)
  rw [plan_k] at h
  exact h.mono fun e w' ⟨A, c, h1, h2, _, h4⟩ => ⟨A, c, h1, h2, h4⟩
set_option maxRecDepth 100000 in
set_option maxHeartbeats 4000000 in
theorem known_any (w : World) : Calls Tryz.prog 6 #[] w fun e w' => e = .returned (.bool true) ∧ Below w.heap.size w w' := by
  go_enter Tryz.func6, Tryz.ntmps6
  go_upto_region 2 with (go_at_call 14; refine (meetK_any _ _ _ ((Blk.at_ rfl).alloc _) (Blk.at_ (by simp))).mono ?_; rintro _ W1 ⟨rfl, hb1⟩)
  refine gen_w (fun W => Below w.heap.size w W) (bl2 (by (repeat (first | exact Below.refl _ _ | assumption | (refine Below.alloc ?_ (by first | omega | (simp; omega) | (simp; done)) _) | (refine Below.setCell ?_ (by first | omega | (simp; omega) | (simp; done)) _) | (refine Below.drew ?_) | (refine belowN ?_ _) | (refine Below.trans ?_ (Below.mono ‹Below _ _ _› (by first | omega | (simp; omega) | (simp; done))))))) hb1) ?_
  clear hb1
  clear W1
  rintro W1 hw1
  go_upto_region 3 with (first | (go_at_call 16; refine (usual_any _).mono ?_; rintro _ W2 ⟨rfl, hb2⟩) | (go_at_call 15; refine (solarK_any _).mono ?_; rintro _ W3 ⟨rfl, hb3⟩))
  obtain ⟨p4, hp4⟩ : ∃ n, n = W3.heap.size := ⟨_, rfl⟩
  rw [← hp4]
  refine gen_w (fun W => Below w.heap.size w W ∧ Blk W p4 #[.int .i64 0, .int .i64 2, .int .i64 29] 54) ⟨bla (bl2 (bl2 hw1 hb2) hb3), Blk.at_ hp4⟩ ?_
  clear hb2 hb3 hp4 hw1
  clear W1 W2 W3
  rintro W1 ⟨hw1, g4⟩
  go_upto_region 4 with (first | (go_at_call 18; refine (moons_any _).mono ?_; rintro _ W2 ⟨rfl, hb2⟩) | (go_at_call 17; refine (lunarK_any _).mono ?_; rintro _ W3 ⟨rfl, hb3⟩))
  obtain ⟨p6, hp6⟩ : ∃ n, n = W3.heap.size := ⟨_, rfl⟩
  rw [← hp6]
  refine gen_w (fun W => Below w.heap.size w W ∧ Blk W p4 #[.int .i64 0, .int .i64 2, .int .i64 29] 54 ∧ Blk W p6 #[.int .i64 2, .int .i64 4, .int .i64 1, .bool true] 59) ⟨bla (bl2 (bl2 hw1 hb2) hb3), ((g4.below hb2 g4.lt).below hb3 (by have := g4.lt; have := hb2.size; omega)).alloc _, Blk.at_ hp6⟩ ?_
  clear hb2 hb3 hp6 hw1 g4
  clear W1 W2 W3
  rintro W1 ⟨hw1, g4, g6⟩
  go_upto_region 5 with (first | (go_at_call 19; refine (week_any _).mono ?_; rintro _ W2 ⟨bs, rfl, gb, hb2⟩) | (go_at_call 20; refine (rest_any _).mono ?_; rintro _ W3 ⟨A1, A2, br, rfl, gr, hb3⟩) | (go_at_call 10; refine (countK_any _ _ _ _ _ (gb.below hb3 gb.lt) gr).mono ?_; rintro _ W4 ⟨rfl, hb4⟩))
  refine gen_w (fun W => Below w.heap.size w W ∧ Blk W p4 #[.int .i64 0, .int .i64 2, .int .i64 29] 54 ∧ Blk W p6 #[.int .i64 2, .int .i64 4, .int .i64 1, .bool true] 59) ⟨bl2 (bl2 (bl2 hw1 hb2) hb3) hb4, ((g4.below hb2 g4.lt).below hb3 (by have := g4.lt; have := hb2.size; omega)).below hb4 (by have := g4.lt; have := hb2.size; have := hb3.size; omega), ((g6.below hb2 g6.lt).below hb3 (by have := g6.lt; have := hb2.size; omega)).below hb4 (by have := g6.lt; have := hb2.size; have := hb3.size; omega)⟩ ?_
  clear hb2 hb3 hb4 hw1 g4 g6 gb gr
  clear W1 W2 W3 W4
  rintro W1 ⟨hw1, g4, g6⟩
  go_upto_region 6 with (first | (go_at_call 19; refine (week_any _).mono ?_; rintro _ W2 ⟨bs2, rfl, gb, hb2⟩) | (go_at_call 20; refine (rest_any _).mono ?_; rintro _ W3 ⟨A3, A4, br2, rfl, gr, hb3⟩) | (go_at_call 21; refine (planK_any _ _ _ _ _ (gb.below hb3 gb.lt) gr).mono ?_; rintro _ W4 ⟨Ap, cp, rfl, hsl, hb4⟩))
  refine gen_w (fun W => Below w.heap.size w W ∧ Blk W p4 #[.int .i64 0, .int .i64 2, .int .i64 29] 54 ∧ Blk W p6 #[.int .i64 2, .int .i64 4, .int .i64 1, .bool true] 59 ∧ Sl intCell 1 W W.heap.size Ap [2, 8, 14]) ⟨bl2 (bl2 (bl2 hw1 hb2) hb3) hb4, ((g4.below hb2 g4.lt).below hb3 (by have := g4.lt; have := hb2.size; omega)).below hb4 (by have := g4.lt; have := hb2.size; have := hb3.size; omega), ((g6.below hb2 g6.lt).below hb3 (by have := g6.lt; have := hb2.size; omega)).below hb4 (by have := g6.lt; have := hb2.size; have := hb3.size; omega), hsl⟩ ?_
  clear hb2 hb3 hb4 hw1 g4 g6 gb gr hsl
  clear W1 W2 W3 W4
  rintro W1 ⟨hw1, g4, g6, hsl⟩
  have c0 := g4.cell 0; have c1 := g4.cell 1; have c2 := g4.cell 2
  have d0 := g6.cell 0; have d1 := g6.cell 1; have d2 := g6.cell 2; have d3 := g6.cell 3
  simp at c0 c1 c2 d0 d1 d2 d3
  have HSL := Lib.hid hsl
  clear hsl g4 g6
  go_wp2_with fail
  have hs := same_any Ap (some ⟨W1.heap.size, 0, none⟩) cp 3 [2, 8, 14] [2, 8, 14] (W1.alloc (.cells #[.int .i64 2, .int .i64 8, .int .i64 14] 3)) (by simp) (by simp) ((HSL.out.below ((Below.refl _ _).alloc (Nat.le_refl _) _)).more (by simp)) (sl_one (Blk.at_ rfl) rfl rfl)
  rw [show decide (([2, 8, 14] : List Int) = [2, 8, 14]) = true from rfl] at hs
  have HS := Lib.hid (hs : Calls Tryz.prog 22 #[.slice Ap 3 cp, .slice (some ⟨W1.heap.size, 0, none⟩) 3 3] (W1.alloc (.cells #[.int .i64 2, .int .i64 8, .int .i64 14] 3)) fun e w' => e = .returned (.bool true) ∧ Below (W1.alloc (.cells #[.int .i64 2, .int .i64 8, .int .i64 14] 3)).heap.size (W1.alloc (.cells #[.int .i64 2, .int .i64 8, .int .i64 14] 3)) w')
  clear hs
  refine HS.out.mono ?_
  rintro _ W5 ⟨rfl, hb5⟩
  go_wp2_with fail
  go_ret
  exact ⟨rfl, bl2 (bla hw1) hb5⟩
end Go.Proofs.YtfbnllmmoaialaaGreat
namespace Go.Proofs.YtfbnllmmoaialaaGreat

/-- some days follow one another, out of a list, behind a last one -/
def PlanOf (g0 g1 : Int) : List Int → Option Int → List Int → Prop
  | _, _, [] => True
  | l, last, p :: ps => ∃ l1 l2, l = l1 ++ p :: l2 ∧ nearB g0 g1 last p = true ∧ PlanOf g0 g1 l2 (some p) ps
theorem PlanOf.cons {g0 g1 d : Int} {l : List Int} {last : Option Int} {p : List Int} (h : PlanOf g0 g1 l last p) : PlanOf g0 g1 (d :: l) last p := by
  cases p with
  | nil => trivial
  | cons p ps =>
    obtain ⟨l1, l2, e, h1, h2⟩ := h
    exact ⟨d :: l1, l2, by rw [e]; rfl, h1, h2⟩
/-- a plan of a list either begins with its first day, or lies behind it -/
theorem planOf_cons {g0 g1 d : Int} {l : List Int} {last : Option Int} {p : Int} {ps : List Int} : PlanOf g0 g1 (d :: l) last (p :: ps) ↔ (p = d ∧ nearB g0 g1 last d = true ∧ PlanOf g0 g1 l (some d) ps) ∨ PlanOf g0 g1 l last (p :: ps) := by
  constructor
  · rintro ⟨l1, l2, e, h1, h2⟩
    cases l1 with
    | nil =>
      simp only [List.nil_append, List.cons.injEq] at e
      obtain ⟨rfl, rfl⟩ := e
      exact .inl ⟨rfl, h1, h2⟩
    | cons x l1 =>
      simp only [List.cons_append, List.cons.injEq] at e
      obtain ⟨rfl, rfl⟩ := e
      exact .inr ⟨l1, l2, rfl, h1, h2⟩
  · rintro (⟨rfl, h1, h2⟩ | h)
    · exact ⟨[], l, rfl, h1, h2⟩
    · exact h.cons
theorem bestOf_ge {g0 g1 d : Int} {k : Int} : ∀ (l cs : List Int), 1 ≤ k → (k ≤ bestOf g0 g1 d l cs ↔ ∃ y c, (y, c) ∈ l.zip cs ∧ inB (y - d) g0 g1 = true ∧ k ≤ c)
  | [], cs, hk => by
    simp [bestOf]; omega
  | y :: l, [], hk => by
    simp [bestOf]; omega
  | y :: l, c :: cs, hk => by
    have ih := bestOf_ge (g0 := g0) (g1 := g1) (d := d) l cs hk
    simp only [bestOf, List.zip_cons_cons, List.mem_cons, Prod.mk.injEq]
    cases hin : inB (y - d) g0 g1 with
    | false =>
      simp only [Bool.false_eq_true, if_false]
      rw [show k ≤ max 0 (bestOf g0 g1 d l cs) ↔ k ≤ bestOf g0 g1 d l cs by omega, ih]
      constructor
      · rintro ⟨a, b, h1, h2, h3⟩; exact ⟨a, b, .inr h1, h2, h3⟩
      · rintro ⟨a, b, h1, h2, h3⟩
        rcases h1 with ⟨rfl, rfl⟩ | h1
        · rw [hin] at h2; cases h2
        · exact ⟨a, b, h1, h2, h3⟩
    | true =>
      simp only [if_true]
      constructor
      · intro h
        rcases Int.le_total k c with h1 | h1
        · exact ⟨y, c, .inl ⟨rfl, rfl⟩, hin, h1⟩
        · by_cases h2 : k ≤ bestOf g0 g1 d l cs
          · obtain ⟨a, b, h3, h4, h5⟩ := ih.1 h2; exact ⟨a, b, .inr h3, h4, h5⟩
          · exact ⟨y, c, .inl ⟨rfl, rfl⟩, hin, by omega⟩
      · rintro ⟨a, b, h1, h2, h3⟩
        rcases h1 with ⟨rfl, rfl⟩ | h1
        · omega
        · have := ih.2 ⟨a, b, h1, h2, h3⟩; omega
theorem zip_cnts {g0 g1 T : Int} : ∀ (l : List Int) (y c : Int), (y, c) ∈ l.zip (cnts g0 g1 T l) ↔ ∃ l1 l2, l = l1 ++ y :: l2 ∧ c = min (bestOf g0 g1 y l2 (cnts g0 g1 T l2) + 1) T
  | [], y, c => by
    constructor
    · intro h; simp at h
    · rintro ⟨l1, l2, h, _⟩; simp at h
  | d :: l, y, c => by
    simp only [cnts, List.zip_cons_cons, List.mem_cons, Prod.mk.injEq]
    rw [zip_cnts l y c]
    constructor
    · rintro (⟨rfl, rfl⟩ | ⟨l1, l2, rfl, rfl⟩)
      · exact ⟨[], l, rfl, rfl⟩
      · exact ⟨d :: l1, l2, rfl, rfl⟩
    · rintro ⟨l1, l2, h, rfl⟩
      cases l1 with
      | nil =>
        simp only [List.nil_append, List.cons.injEq] at h
        obtain ⟨rfl, rfl⟩ := h
        exact .inl ⟨rfl, rfl⟩
      | cons x l1 =>
        simp only [List.cons_append, List.cons.injEq] at h
        obtain ⟨rfl, rfl⟩ := h
        exact .inr ⟨l1, l2, rfl, rfl⟩
/-- the number of a day tells how many turns there can be from it on -/
theorem cnts_plan {g0 g1 T : Int} : ∀ (n : Nat) (l : List Int), l.length ≤ n → ∀ (d : Int) (k : Nat), (k : Int) + 1 ≤ T → ((k : Int) + 1 ≤ min (bestOf g0 g1 d l (cnts g0 g1 T l) + 1) T ↔ ∃ ps : List Int, ps.length = k ∧ PlanOf g0 g1 l (some d) ps)
  | n, l, hn, d, 0, hk => by
    have := bestOf_nn g0 g1 d l (cnts g0 g1 T l)
    exact ⟨fun _ => ⟨[], rfl, trivial⟩, fun _ => by omega⟩
  | 0, l, hn, d, k + 1, hk => by
    have hl : l = [] := List.eq_nil_of_length_eq_zero (by omega)
    subst hl
    constructor
    · intro h; simp [bestOf] at h; omega
    · rintro ⟨ps, h1, h2⟩
      cases ps with
      | nil => cases h1
      | cons p ps => obtain ⟨l1, l2, e, _⟩ := h2; simp at e
  | n + 1, l, hn, d, k + 1, hk => by
    have e1 : (((k + 1 : Nat) : Int) + 1 ≤ min (bestOf g0 g1 d l (cnts g0 g1 T l) + 1) T) ↔ ((k : Int) + 1 ≤ bestOf g0 g1 d l (cnts g0 g1 T l)) := by omega
    rw [e1, bestOf_ge l (cnts g0 g1 T l) (by omega)]
    constructor
    · rintro ⟨y, c, h1, h2, h3⟩
      obtain ⟨l1, l2, rfl, rfl⟩ := (zip_cnts l y c).1 h1
      obtain ⟨ps, h4, h5⟩ := (cnts_plan n l2 (by simp at hn; omega) y k (by omega)).1 h3
      exact ⟨y :: ps, by simp [h4], l1, l2, rfl, h2, h5⟩
    · rintro ⟨ps, h1, h2⟩
      cases ps with
      | nil => cases h1
      | cons y ps =>
        obtain ⟨l1, l2, rfl, h3, h4⟩ := h2
        exact ⟨y, _, (zip_cnts _ _ _).2 ⟨l1, l2, rfl, rfl⟩, h3, (cnts_plan n l2 (by simp at hn; omega) y k (by omega)).2 ⟨ps, by simpa using h1, h4⟩⟩
/-- a list is no greater than the beginning of another one -/
def LeL : List Int → List Int → Prop
  | [], _ => True
  | _ :: _, [] => False
  | a :: l, b :: m => a < b ∨ (a = b ∧ LeL l m)
theorem planOf_mem {g0 g1 : Int} : ∀ {l : List Int} {last : Option Int} {p : List Int}, PlanOf g0 g1 l last p → ∀ x ∈ p, x ∈ l
  | l, last, [], _, x, hx => by cases hx
  | l, last, p :: ps, h, x, hx => by
    obtain ⟨l1, l2, rfl, _, h2⟩ := h
    rcases List.mem_cons.1 hx with rfl | hx
    · simp
    · have := planOf_mem h2 x hx
      simp [this]
/-- the plan that is found is the smallest one; where none is found there is none -/
theorem greedy_spec {g0 g1 T : Int} : ∀ (l : List Int) (last : Option Int) (k : Nat), (k : Int) ≤ T → l.Pairwise (· < ·) →
    (∀ p, greedy g0 g1 (l.zip (cnts g0 g1 T l)) last k = some p → PlanOf g0 g1 l last p ∧ p.length = k ∧ ∀ p', PlanOf g0 g1 l last p' → p'.length = k → LeL p p') ∧
    (greedy g0 g1 (l.zip (cnts g0 g1 T l)) last k = none → ∀ p', PlanOf g0 g1 l last p' → p'.length ≠ k)
  | l, last, 0, _, _ => by
    have e : greedy g0 g1 (l.zip (cnts g0 g1 T l)) last 0 = some [] := by cases l.zip (cnts g0 g1 T l) <;> rfl
    rw [e]
    exact ⟨fun p h => by cases h; exact ⟨trivial, rfl, fun _ _ _ => trivial⟩, fun h => by cases h⟩
  | [], last, k + 1, _, _ => by
    refine ⟨fun p h => by simp [greedy] at h, fun _ p' h1 h2 => ?_⟩
    cases p' with
    | nil => cases h2
    | cons p ps => obtain ⟨l1, l2, e, _⟩ := h1; simp at e
  | d :: l, last, k + 1, hk, hs => by
    obtain ⟨hs1, hs2⟩ := List.pairwise_cons.1 hs
    have hA := cnts_plan (g0 := g0) (g1 := g1) (T := T) l.length l (Nat.le_refl _) d k (by omega)
    obtain ⟨ih1, ih2⟩ := greedy_spec (g0 := g0) (g1 := g1) (T := T) l (some d) k (by omega) hs2
    obtain ⟨jh1, jh2⟩ := greedy_spec (g0 := g0) (g1 := g1) (T := T) l last (k + 1) hk hs2
    simp only [cnts, List.zip_cons_cons, greedy]
    cases hc : (decide ((k : Int) + 1 ≤ min (bestOf g0 g1 d l (cnts g0 g1 T l) + 1) T) && nearB g0 g1 last d) with
    | true =>
      simp only [Bool.and_eq_true, decide_eq_true_eq] at hc
      obtain ⟨hc1, hc2⟩ := hc
      obtain ⟨ps, hp1, hp2⟩ := hA.1 hc1
      simp only [if_true]
      cases hg : greedy g0 g1 (l.zip (cnts g0 g1 T l)) (some d) k with
      | none => exact absurd hp1 (ih2 hg ps hp2)
      | some q =>
        obtain ⟨a1, a2, a3⟩ := ih1 q hg
        refine ⟨fun p h => ?_, fun h => by simp at h⟩
        simp only [Option.map_some, Option.some.injEq] at h
        subst h
        refine ⟨⟨[], l, rfl, hc2, a1⟩, by simp [a2], fun p' h1 h2 => ?_⟩
        cases p' with
        | nil => cases h2
        | cons x ps' =>
          rcases planOf_cons.1 h1 with ⟨rfl, _, h3⟩ | h3
          · exact Or.inr ⟨rfl, a3 ps' h3 (by simpa using h2)⟩
          · exact Or.inl (hs1 x (planOf_mem h3 x (by simp)))
    | false =>
      simp only [Bool.false_eq_true, if_false]
      have hno : ∀ ps', ¬ (nearB g0 g1 last d = true ∧ PlanOf g0 g1 l (some d) ps' ∧ ps'.length = k) := fun ps' ⟨h1, h2, h3⟩ => by
        have h4 := hA.2 ⟨ps', h3, h2⟩
        rw [h1] at hc
        simp only [Bool.and_true, decide_eq_false_iff_not] at hc
        exact hc h4
      refine ⟨fun p h => ?_, fun h p' h1 h2 => ?_⟩
      · obtain ⟨a1, a2, a3⟩ := jh1 p h
        refine ⟨a1.cons, a2, fun p' h1 h2 => ?_⟩
        cases p' with
        | nil => cases h2
        | cons x ps' =>
          rcases planOf_cons.1 h1 with ⟨rfl, h3, h4⟩ | h3
          · exact absurd ⟨h3, h4, by simpa using h2⟩ (hno ps')
          · exact a3 _ h3 h2
      · cases p' with
        | nil => cases h2
        | cons x ps' =>
          rcases planOf_cons.1 h1 with ⟨rfl, h3, h4⟩ | h3
          · exact absurd ⟨h3, h4, by simpa using h2⟩ (hno ps')
          · exact jh2 h _ h3 h2
/-- what stands at the beginning of a plan is a plan -/
theorem planOf_take {g0 g1 : Int} : ∀ {l : List Int} {last : Option Int} {p : List Int} (n : Nat), PlanOf g0 g1 l last p → PlanOf g0 g1 l last (p.take n)
  | l, last, p, 0, _ => by rw [List.take_zero]; trivial
  | l, last, [], n + 1, h => h
  | l, last, p :: ps, n + 1, h => by
    obtain ⟨l1, l2, e, h1, h2⟩ := h
    exact ⟨l1, l2, e, h1, planOf_take n h2⟩
/-- the days of a plan are apart as they may be -/
theorem planOf_gap {g0 g1 : Int} : ∀ {l : List Int} {last : Option Int} {p : List Int}, PlanOf g0 g1 l last p → ∀ i (hi : i + 1 < p.length), inB (p[i + 1] - p[i]) g0 g1 = true
  | l, last, [], _, i, hi => by simp at hi
  | l, last, [p], _, i, hi => by simp at hi
  | l, last, p :: q :: ps, h, 0, hi => by
    obtain ⟨l1, l2, e, h1, l3, l4, e2, h3, h4⟩ := h
    exact h3
  | l, last, p :: q :: ps, h, i + 1, hi => by
    obtain ⟨l1, l2, e, h1, h2⟩ := h
    exact planOf_gap h2 i (by simpa using hi)
theorem leL_at {a b : List Int} (h : LeL a b) : ∀ i (hi : i < a.length), (∀ j (hj : j < i), a[j]? = b[j]?) → ∃ hb : i < b.length, a[i] ≤ b[i] := by
  induction a generalizing b with
  | nil => intro i hi; simp at hi
  | cons x a ih =>
    intro i hi heq
    cases b with
    | nil => cases h
    | cons y b =>
      cases i with
      | zero =>
        refine ⟨by simp, ?_⟩
        rcases h with h | ⟨h, _⟩
        · exact Int.le_of_lt h
        · exact Int.le_of_eq h
      | succ i =>
        have h0 := heq 0 (by omega)
        simp at h0
        rcases h with h | ⟨_, h⟩
        · omega
        · obtain ⟨h1, h2⟩ := ih h i (by simpa using hi) (fun j hj => by have := heq (j + 1) (by omega); simpa using this)
          exact ⟨by simpa using h1, h2⟩
end Go.Proofs.YtfbnllmmoaialaaGreat
namespace Go.Proofs.YtfbnllmmoaialaaGreat

theorem bothE_7 (x : Alm) (rs : List DRl) : bothE x rs ≠ 7 := by
  unfold bothE chkE
  split
  · split
    · decide
    · split <;> decide
  · decide
theorem planR_0 {x : Alm} {rs : List DRl} {s0 s1 g0 g1 T : Int} {P : List Int} (h : planR x rs s0 s1 g0 g1 T = (P, 0)) : bothE x rs = 0 ∧ okP s0 s1 g0 g1 T = true ∧ greedy g0 g1 ((spanL x rs s0 s1).zip (cnts g0 g1 T (spanL x rs s0 s1))) none T.toNat = some P := by
  unfold planR at h
  by_cases hb : bothE x rs = 0
  · rw [if_pos hb] at h
    cases ho : okP s0 s1 g0 g1 T with
    | false => rw [ho] at h; simp at h
    | true =>
      rw [ho] at h
      simp only [if_true] at h
      cases hg : greedy g0 g1 ((spanL x rs s0 s1).zip (cnts g0 g1 T (spanL x rs s0 s1))) none T.toNat with
      | none => rw [hg] at h; simp [planS] at h
      | some l => rw [hg] at h; simp [planS] at h; rw [h]; exact ⟨hb, rfl, rfl⟩
  · rw [if_neg hb] at h
    simp only [Prod.mk.injEq] at h
    exact absurd h.2 hb
theorem planR_n0 {x : Alm} {rs : List DRl} {s0 s1 g0 g1 T E : Int} {P : List Int} (h : planR x rs s0 s1 g0 g1 T = (P, E)) (hE : E ≠ 0) : P = [] := by
  unfold planR at h
  split at h
  · split at h
    · cases hg : greedy g0 g1 ((spanL x rs s0 s1).zip (cnts g0 g1 T (spanL x rs s0 s1))) none T.toNat with
      | none => rw [hg] at h; simp [planS] at h; exact h.1
      | some l => rw [hg] at h; simp [planS] at h; exact absurd h.2.symm hE
    · simp at h; exact h.1
  · simp at h; exact h.1
theorem planR_7 {x : Alm} {rs : List DRl} {s0 s1 g0 g1 T : Int} {P : List Int} (h : planR x rs s0 s1 g0 g1 T = (P, 7)) : bothE x rs = 0 ∧ okP s0 s1 g0 g1 T = true ∧ greedy g0 g1 ((spanL x rs s0 s1).zip (cnts g0 g1 T (spanL x rs s0 s1))) none T.toNat = none := by
  unfold planR at h
  by_cases hb : bothE x rs = 0
  · rw [if_pos hb] at h
    cases ho : okP s0 s1 g0 g1 T with
    | false => rw [ho] at h; simp at h
    | true =>
      rw [ho] at h
      simp only [if_true] at h
      cases hg : greedy g0 g1 ((spanL x rs s0 s1).zip (cnts g0 g1 T (spanL x rs s0 s1))) none T.toNat with
      | none => exact ⟨hb, rfl, rfl⟩
      | some l => rw [hg] at h; simp [planS] at h
  · rw [if_neg hb] at h
    simp only [Prod.mk.injEq] at h
    exact absurd h.2 (bothE_7 x rs)
theorem okP_iff {s0 s1 g0 g1 T : Int} : okP s0 s1 g0 g1 T = true ↔ spanB s0 s1 = true ∧ 1 ≤ g0 ∧ g0 ≤ g1 ∧ g1 ≤ 4000 ∧ 1 ≤ T ∧ T ≤ 60 := by
  simp [okP, inB]
theorem spanL_sorted (x : Alm) (rs : List DRl) (a b : Int) : (spanL x rs a b).Pairwise (· < ·) := daysL_sorted x _ a b
theorem spanL_mem {x : Alm} {rs : List DRl} {a b d : Int} (h : d ∈ spanL x rs a b) : a ≤ d ∧ d ≤ b ∧ allowB x rs d = true := by
  obtain ⟨h1, h2⟩ := daysL_bd x _ a b d h
  refine ⟨h1, h2, ?_⟩
  unfold spanL daysL daysN at h
  have := (List.mem_filter.1 h).2
  simpa [allB] using this
/-- with one turn more there is no plan either -/
theorem plan_more {x : Alm} {rs : List DRl} {s0 s1 g0 g1 T : Int} {P : List Int} (h : planR x rs s0 s1 g0 g1 T = (P, 7)) (hT : T < 60) : planR x rs s0 s1 g0 g1 (T + 1) = ([], 7) := by
  obtain ⟨hb, ho, hg⟩ := planR_7 h
  obtain ⟨o1, o2, o3, o4, o5, o6⟩ := okP_iff.1 ho
  have ho2 : okP s0 s1 g0 g1 (T + 1) = true := okP_iff.2 ⟨o1, o2, o3, o4, by omega, by omega⟩
  obtain ⟨-, q2⟩ := greedy_spec (g0 := g0) (g1 := g1) (T := T) (spanL x rs s0 s1) none T.toNat (by omega) (spanL_sorted x rs s0 s1)
  obtain ⟨r1, -⟩ := greedy_spec (g0 := g0) (g1 := g1) (T := T + 1) (spanL x rs s0 s1) none (T + 1).toNat (by omega) (spanL_sorted x rs s0 s1)
  unfold planR
  rw [if_pos hb, ho2]
  simp only [if_true]
  cases hg2 : greedy g0 g1 ((spanL x rs s0 s1).zip (cnts g0 g1 (T + 1) (spanL x rs s0 s1))) none (T + 1).toNat with
  | none => rfl
  | some p =>
    obtain ⟨h1, h2, -⟩ := r1 p hg2
    exact absurd (by rw [List.length_take, h2]; omega) (q2 hg _ (planOf_take T.toNat h1))
/-- what a plan says -/
structure PlanOk (x : Alm) (rs : List DRl) (s0 s1 g0 g1 T : Int) (P : List Int) : Prop where
  both : bothE x rs = 0
  span : spanB s0 s1 = true
  gaps : 1 ≤ g0 ∧ g0 ≤ g1 ∧ g1 ≤ 4000
  turns : 1 ≤ T ∧ T ≤ 60
  len : (P.length : Int) = T
  day : ∀ d ∈ P, s0 ≤ d ∧ d ≤ s1 ∧ allowB x rs d = true
  gap : ∀ i (hi : i + 1 < P.length), inB (P[i + 1] - P[i]) g0 g1 = true
theorem plan_okP {x : Alm} {rs : List DRl} {s0 s1 g0 g1 T : Int} {P : List Int} (h : planR x rs s0 s1 g0 g1 T = (P, 0)) : PlanOk x rs s0 s1 g0 g1 T P := by
  obtain ⟨hb, ho, hg⟩ := planR_0 h
  obtain ⟨o1, o2, o3, o4, o5, o6⟩ := okP_iff.1 ho
  obtain ⟨q1, -⟩ := greedy_spec (g0 := g0) (g1 := g1) (T := T) (spanL x rs s0 s1) none T.toNat (by omega) (spanL_sorted x rs s0 s1)
  obtain ⟨h1, h2, -⟩ := q1 P hg
  exact ⟨hb, o1, ⟨o2, o3, o4⟩, ⟨o5, o6⟩, by omega, fun d hd => spanL_mem (planOf_mem h1 d hd), planOf_gap h1⟩
/-- one turn: the next allowed day -/
theorem plan_one {x : Alm} {rs : List DRl} {s0 s1 g0 g1 : Int} {P : List Int} (h : planR x rs s0 s1 g0 g1 1 = (P, 0)) : ∃ d, P = [d] ∧ nextR x rs s0 s1 = (d, 0) := by
  obtain ⟨hb, ho, hg⟩ := planR_0 h
  obtain ⟨o1, -⟩ := okP_iff.1 ho
  obtain ⟨q1, -⟩ := greedy_spec (g0 := g0) (g1 := g1) (T := 1) (spanL x rs s0 s1) none 1 (by omega) (spanL_sorted x rs s0 s1)
  obtain ⟨h1, h2, h3⟩ := q1 P hg
  have hn : nextR x rs s0 s1 = firstR (spanL x rs s0 s1) := by unfold nextR; rw [if_pos hb, o1]; rfl
  match P, h2 with
  | [d], _ =>
    refine ⟨d, rfl, ?_⟩
    have hm := planOf_mem h1 d (by simp)
    have hs := spanL_sorted x rs s0 s1
    rw [hn]
    cases hl : spanL x rs s0 s1 with
    | nil => rw [hl] at hm; cases hm
    | cons a l =>
      rw [hl] at hm h3 hs
      have h4 := h3 [a] ⟨[], l, rfl, rfl, trivial⟩ rfl
      obtain ⟨hs1, -⟩ := List.pairwise_cons.1 hs
      have h5 : d ≤ a := by
        rcases h4 with h4 | ⟨h4, _⟩
        · exact Int.le_of_lt h4
        · exact Int.le_of_eq h4
      have h6 : d = a := by
        rcases List.mem_cons.1 hm with h | h
        · exact h
        · have := hs1 d h; omega
      rw [h6]; rfl
/-- with one turn less there is a plan no greater than the beginning -/
theorem plan_less {x : Alm} {rs : List DRl} {s0 s1 g0 g1 T : Int} {P : List Int} (h : planR x rs s0 s1 g0 g1 T = (P, 0)) (hT : T ≠ 1) : ∃ P2, planR x rs s0 s1 g0 g1 (T - 1) = (P2, 0) ∧ (P2.length : Int) = T - 1 ∧ LeL P2 (P.take (T - 1).toNat) := by
  obtain ⟨hb, ho, hg⟩ := planR_0 h
  obtain ⟨o1, o2, o3, o4, o5, o6⟩ := okP_iff.1 ho
  have ho2 : okP s0 s1 g0 g1 (T - 1) = true := okP_iff.2 ⟨o1, o2, o3, o4, by omega, by omega⟩
  obtain ⟨q1, -⟩ := greedy_spec (g0 := g0) (g1 := g1) (T := T) (spanL x rs s0 s1) none T.toNat (by omega) (spanL_sorted x rs s0 s1)
  obtain ⟨h1, h2, -⟩ := q1 P hg
  obtain ⟨r1, r2⟩ := greedy_spec (g0 := g0) (g1 := g1) (T := T - 1) (spanL x rs s0 s1) none (T - 1).toNat (by omega) (spanL_sorted x rs s0 s1)
  have hp := planOf_take (T - 1).toNat h1
  have hpl : (P.take (T - 1).toNat).length = (T - 1).toNat := by rw [List.length_take, h2]; omega
  cases hg2 : greedy g0 g1 ((spanL x rs s0 s1).zip (cnts g0 g1 (T - 1) (spanL x rs s0 s1))) none (T - 1).toNat with
  | none => exact absurd hpl (r2 hg2 _ hp)
  | some p =>
    obtain ⟨a1, a2, a3⟩ := r1 p hg2
    refine ⟨p, ?_, by omega, a3 _ hp hpl⟩
    unfold planR
    rw [if_pos hb, ho2]
    simp only [if_true, hg2]
    rfl
end Go.Proofs.YtfbnllmmoaialaaGreat
namespace Go.Proofs.YtfbnllmmoaialaaGreat
open Go.RowKit

theorem planX_any (x : Alm) (A2 : Option Addr) (c2 : Nat) (rs : List DRl) (s0 s1 g0 g1 T : Int) (w : World) (hl : x.cycles.length ≤ 1000000) (hc : Sl Cyc.cells 2 w w.heap.size x.a x.cycles) (hr : RlsAt w w.heap.size A2 rs) :
    Calls Tryz.prog 21 #[.agg x.cells.toArray, .slice A2 rs.length c2, .agg #[.int .i64 s0, .int .i64 s1], .agg #[.int .i64 g0, .int .i64 g1], .int .i64 T] w (RetSlE (planR x rs s0 s1 g0 g1 T).1 (planR x rs s0 s1 g0 g1 T).2 w) := by
  by_cases h : bothE x rs = 0 ∧ okP s0 s1 g0 g1 T = true
  · exact plan_ok x A2 c2 rs s0 s1 g0 g1 T w hl hc hr h.1 h.2
  · exact plan_err x A2 c2 rs s0 s1 g0 g1 T w hl hc hr h
theorem planV {x : Alm} {rs : List DRl} {s0 s1 g0 g1 T E : Int} {P : List Int} (h : planR x rs s0 s1 g0 g1 T = (P, E)) (hl : x.cycles.length ≤ 1000000) (A : Option Addr) (c : Nat) (A3 : Option Addr) (k3 : Nat) (l' : List DRl) (W : World) (hs : Sl Cyc.cells 2 W W.heap.size A x.cycles) (hr : RlsAt W W.heap.size A3 l') (hpl : l'.map DRl.pl = rs.map DRl.pl) :
    Calls Tryz.prog 21 #[.agg (Alm.cells ⟨A, c, x.cycles, x.sol, x.lun⟩).toArray, .slice A3 l'.length k3, .agg #[.int .i64 s0, .int .i64 s1], .agg #[.int .i64 g0, .int .i64 g1], .int .i64 T] W fun e w' => ∃ A4 q4, e = .returned (.tuple #[.slice A4 P.length q4, .int .i64 E]) ∧ Sl intCell 1 w' w'.heap.size A4 P ∧ (A4 = none → q4 = 0) ∧ Below W.heap.size W w' := by
  have h1 := planX_any (x.at_ A c) A3 k3 l' s0 s1 g0 g1 T W hl hs hr
  rw [planR_cong hpl, h] at h1
  exact h1
theorem nextV {x : Alm} {rs : List DRl} {fr to_ n E : Int} (h : nextR x rs fr to_ = (n, E)) (hl : x.cycles.length ≤ 1000000) (A : Option Addr) (c : Nat) (A3 : Option Addr) (k3 : Nat) (l' : List DRl) (W : World) (hs : Sl Cyc.cells 2 W W.heap.size A x.cycles) (hr : RlsAt W W.heap.size A3 l') (hpl : l'.map DRl.pl = rs.map DRl.pl) :
    Calls Tryz.prog 7 #[.agg (Alm.cells ⟨A, c, x.cycles, x.sol, x.lun⟩).toArray, .slice A3 l'.length k3, .int .i64 fr, .int .i64 to_] W fun e w' => e = .returned (.tuple #[.int .i64 n, .int .i64 E]) ∧ Below W.heap.size W w' := by
  have h1 := nextF_any (x.at_ A c) A3 k3 l' fr to_ W hl hs hr
  rw [nextR_cong hpl, h] at h1
  exact h1
end Go.Proofs.YtfbnllmmoaialaaGreat
namespace Go.Proofs.YtfbnllmmoaialaaGreat

/-- a rule at the end that applies to all days -/
abbrev lastR (v : Bool) : DRl := ⟨none, 0, [], v⟩
theorem allB_one (x : Alm) (rs : List DRl) (day : Int) : allB x [⟨none, 0, rs⟩] day = allowB x rs day := by simp [allB]
theorem decI_last (x : Alm) (rs : List DRl) (v : Bool) (day : Int) : decI x (rs ++ [lastR v]) day = rs.length := by
  unfold decI
  rw [List.length_append, List.length_singleton]
  simp [lastTo, applB]
theorem allowB_last (x : Alm) (rs : List DRl) (v : Bool) (day : Int) : allowB x (rs ++ [lastR v]) day = v := by
  unfold allowB
  rw [decI_last]
  simp
theorem bothE_last {x : Alm} {rs : List DRl} (h : bothE x rs = 0) (hl : rs.length ≤ 29) (v : Bool) : bothE x (rs ++ [lastR v]) = 0 := by
  obtain ⟨h1, h2, h3⟩ := bothE_zero h
  unfold bothE chkE
  rw [h1]
  simp only [if_true]
  rw [if_neg (by simp; omega), if_neg]
  rw [List.any_append]
  have e1 : rs.any (badR x.cycles) = false := by
    rw [List.any_eq_false]
    intro r hr
    rw [h3 r hr]; decide
  rw [e1]
  simp [badR]
theorem spanL_all {x : Alm} {rs : List DRl} {a b : Int} (h : ∀ d, allowB x rs d = true) : (spanL x rs a b).length = (b + 1 - a).toNat := by
  unfold spanL daysL daysN
  rw [List.filter_eq_self.2]
  · simp
  · intro d _
    rw [allB_one]; exact h d
theorem spanL_none {x : Alm} {rs : List DRl} {a b : Int} (h : ∀ d, allowB x rs d = false) : spanL x rs a b = [] := by
  unfold spanL daysL daysN
  rw [List.filter_eq_nil_iff]
  intro d _
  rw [allB_one, h d]; decide
theorem spanL_split (x : Alm) (rs : List DRl) {a m b : Int} (h1 : a ≤ m) (h2 : m < b) : spanL x rs a b = spanL x rs a m ++ spanL x rs (m + 1) b := by
  unfold spanL daysL daysN
  rw [← List.filter_append]
  congr 1
  obtain ⟨p, hp⟩ : ∃ p : Nat, p = (m + 1 - a).toNat := ⟨_, rfl⟩
  obtain ⟨q, hq⟩ : ∃ q : Nat, q = (b + 1 - (m + 1)).toNat := ⟨_, rfl⟩
  rw [← hp, ← hq, show (b + 1 - a).toNat = p + q by omega, List.range_add, List.map_append, List.map_map]
  congr 1
  refine List.map_congr_left fun i _ => ?_
  simp only [Function.comp]
  omega
theorem nextR_ok {x : Alm} {rs : List DRl} {a b : Int} (h : bothE x rs = 0) (hs : spanB a b = true) : nextR x rs a b = firstR (spanL x rs a b) ∧ countR x rs a b = (((spanL x rs a b).length : Int), 0) := by
  unfold nextR countR
  rw [if_pos h, if_pos h, hs]
  exact ⟨rfl, rfl⟩
theorem nextR_er {x : Alm} {rs : List DRl} {a b : Int} (h : bothE x rs ≠ 0) : nextR x rs a b = (0, bothE x rs) ∧ countR x rs a b = (0, bothE x rs) := by
  unfold nextR countR
  rw [if_neg h, if_neg h]
  exact ⟨rfl, rfl⟩
/-- the first of some days, or -1 -/
def firstI : List Int → Int
  | [] => -1
  | d :: _ => d
theorem firstI_snoc (l : List Int) (d : Int) : firstI (l ++ [d]) = if l = [] then d else firstI l := by
  cases l <;> simp [firstI]
theorem firstI_neg {x : Alm} {rs : List DRl} {a b : Int} (ha : 0 ≤ a) : (spanL x rs a b = [] ∧ firstI (spanL x rs a b) = -1 ∧ firstR (spanL x rs a b) = (0, 7)) ∨ (∃ d, 0 ≤ d ∧ firstI (spanL x rs a b) = d ∧ firstR (spanL x rs a b) = (d, 0)) := by
  have hm : ∀ d ∈ spanL x rs a b, a ≤ d := fun d hd => (spanL_mem hd).1
  cases hl : spanL x rs a b with
  | nil => exact .inl ⟨rfl, rfl, rfl⟩
  | cons d l => rw [hl] at hm; exact .inr ⟨d, by have := hm d (by simp); omega, rfl, rfl⟩
theorem daysN_one (x : Alm) (rs : List DRl) (a : Int) (n : Nat) : daysN x [⟨none, 0, rs⟩] a (n + 1) = daysN x [⟨none, 0, rs⟩] a n ++ (if allowB x rs (a + n) then [a + n] else []) := by
  rw [daysN_succ, allB_one]
end Go.Proofs.YtfbnllmmoaialaaGreat

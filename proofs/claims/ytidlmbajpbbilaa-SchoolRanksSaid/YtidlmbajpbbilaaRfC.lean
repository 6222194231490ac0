/- The reference: School. -/
import Derived.Test.YtidlmbajpbbilaaZ15RfA
namespace Go.Proofs.Ytidlmbajpbbilaa
open Go.RowKit

theorem ascB_step {num bb u : Int} {l : List Int} (h : bb < u ∧ u < num) : ascB num bb (u :: l) = ascB num u l := by simp [ascB, h.1, h.2]
theorem ascB_no {num bb u : Int} {l : List Int} (h : ¬ (bb < u ∧ u < num)) : ascB num bb (u :: l) = false := by
  simp only [ascB, Bool.and_eq_false_iff, decide_eq_false_iff_not]
  omega
theorem rulesB_drop {s : Sch} {j : Nat} (h : j < s.rules.length) : rulesB s j (s.rules.drop j) = (ruleB s j s.rules[j] && rulesB s (j + 1) (s.rules.drop (j + 1))) := by
  rw [List.drop_eq_getElem_cons h]; rfl
set_option maxRecDepth 100000 in
set_option maxHeartbeats 4000000 in
theorem rschool_any (s : Sch) (w : World) (hr : s.reads w w.heap.size) : Calls Try.prog 19 #[scv s s.rv] w fun e w' => e = .returned (.bool (schB s)) ∧ Below w.heap.size w w' := by
  have HRR := Lib.hid hr
  have hlm := hr.2.1
  clear hr
  by_cases b1 : inB s.places 1 6 = true
  · by_cases b2 : inB s.signs 1 64 = true
    · obtain ⟨p0, p1⟩ := inB_iff.1 b1
      obtain ⟨g0, g1⟩ := inB_iff.1 b2
      have hs : Small s := ⟨p0, p1, g0, g1⟩
      have HCH := fun (_ : True) W => Lib.hid (rcharts_any s s.rv hs W)
      have hcb := chartsN_bd s.signs g0 s.places.toNat
      have tt : True := trivial
      by_cases b3 : 4096 < chartsN s.signs s.places.toNat
      · have d3 : decide (4096 < chartsN s.signs s.places.toNat) = true := by simpa using b3
        have HT : Hid (schB s = false) := (by have : ¬ chartsN s.signs s.places.toNat ≤ 4096 := by omega
                                              simp [schB, baseB, this] : schB s = false)
        clear b3
        go_enter Try.func19, Try.ntmps19
        go_wp2_with (first | (go_at_call 60; refine (rin_val (by assumption) _).mono ?_; rintro e w' ⟨rfl, rfl⟩) | (go_at_call 40; refine ((HCH (by assumption) _).out).mono ?_; rintro e w1 ⟨rfl, hb1⟩; have hc1 := fun b o (h : b < w.heap.size + 1) => (bcell hb1).1 b o (by simp; omega)))
        go_ret
        exact ⟨ret_bool HT.out.symm, by (repeat (first | exact Below.refl _ _ | assumption | (refine Below.alloc ?_ (by first | omega | (simp; omega) | (simp; done)) _) | (refine Below.setCell ?_ (by first | omega | (simp; omega) | (simp; done)) _) | (refine Below.drew ?_) | (refine belowN ?_ _) | (refine Below.trans ?_ (Below.mono ‹Below _ _ _› (by first | omega | (simp; omega) | (simp; done))))))⟩
      · have d3 : decide (4096 < chartsN s.signs s.places.toNat) = false := by simpa using b3
        by_cases b4 : inB s.kinds 1 4 = true
        · by_cases b5 : inB s.answers 1 20 = true
          · by_cases b6 : s.rules.length ≤ 30
            · have HB : Hid (schB s = rulesB s 0 s.rules) := (by have : chartsN s.signs s.places.toNat ≤ 4096 := by omega
                                                                 simp [schB, baseB, b1, b2, b4, b5, b6, this] : schB s = rulesB s 0 s.rules)
              have d6 : decide (30 < (s.rules.length : Int)) = false := by simp; omega
              have d7 : decide (30 < s.rules.length) = false := by simp; omega
              obtain ⟨k0, k1⟩ := inB_iff.1 b4
              obtain ⟨a0, a1⟩ := inB_iff.1 b5
              go_enter Try.func19, Try.ntmps19
              go_wp2_with (first | (go_at_call 60; refine (rin_val (by assumption) _).mono ?_; rintro e w' ⟨rfl, rfl⟩) | (go_at_call 40; refine ((HCH (by assumption) _).out).mono ?_; rintro e w1 ⟨rfl, hb1⟩; have hc1 := fun b o (h : b < w.heap.size + 1) => (bcell hb1).1 b o (by simp; omega)))
              refine wp_world (fun W => Below w.heap.size w W ∧ w.heap.size < W.heap.size ∧ Blk W w.heap.size #[.int .i64 s.places, .int .i64 s.signs, .int .i64 s.kinds, .int .i64 s.answers, s.rv] 24) ⟨by (repeat (first | exact Below.refl _ _ | assumption | (refine Below.alloc ?_ (by first | omega | (simp; omega) | (simp; done)) _) | (refine Below.setCell ?_ (by first | omega | (simp; omega) | (simp; done)) _) | (refine Below.drew ?_) | (refine belowN ?_ _) | (refine Below.trans ?_ (Below.mono ‹Below _ _ _› (by first | omega | (simp; omega) | (simp; done)))))), by have := hb1.size; simp at this; omega, (hb1.block _ (by simp)).trans (Blk.at_ rfl)⟩ ?_
              clear hc1 hb1 HCH b1 b2 b4 b5 d3 d6 d7
              rintro w0 ⟨hbw, hz0, g0⟩
              have gc := g0.cell
              have s0 := gc 0; have s1 := gc 1; have s2 := gc 2; have s3 := gc 3; have s4 := gc 4
              simp at s0 s1 s2 s3 s4
              clear gc
              obtain ⟨kk, hkk⟩ := Int.eq_ofNat_of_zero_le (a := s.kinds) (by omega)
              rw [hkk] at s2
              go_loop [3, 4] (fun n i => ∃ j : Nat, j ≤ kk ∧ i = .int .i64 j ∧ n = .int .i64 ((2 ^ j : Nat) : Int)) (fun _ i => kk - (intOf i).toNat)
              case atStart => exact ⟨0, by omega, rfl, rfl⟩
              case round =>
                obtain ⟨j, hj, rfl, rfl⟩ := hrel
                have hpj : (2 : Nat) ^ j ≤ 2 ^ 4 := Nat.pow_le_pow_right (by omega) (by omega)
                have hp2 : (2 : Nat) ^ (j + 1) = 2 * 2 ^ j := by rw [Nat.pow_succ]; omega
                obtain ⟨P2, hP2⟩ : ∃ x, x = 2 ^ j := ⟨_, rfl⟩
                rw [← hP2] at hp2 hpj ⊢
                have HP2 := Lib.hid hp2
                clear hp2
                by_cases hlt : j < kk
                · clear hP2
                  go_wp2
                  go_round
                  case rel => exact ⟨j + 1, by omega, by go_num, by rw [HP2.out]; go_num⟩
                  case measure => simp [intOf]; omega
                · obtain rfl : j = kk := by omega
                  have HPP : Hid ((P2 : Int) = 2 ^ s.kinds.toNat) := (by rw [hP2, hkk]; simp : (P2 : Int) = 2 ^ s.kinds.toNat)
                  have hP1 : 1 ≤ P2 := by rw [hP2]; exact Nat.two_pow_pos _
                  have HKK := Lib.hid hkk
                  clear hP2 hkk HP2
                  go_wp2
                  clear s0 s1 s2 s3 s4
                  go_loopw [5] (fun i wr => ∃ j : Nat, j ≤ s.rules.length ∧ i = .int .i64 j ∧ Below w0.heap.size w0 wr ∧ Hid (schB s = rulesB s j (s.rules.drop j))) (fun i _ => s.rules.length - (intOf i).toNat)
                  case atStart => exact ⟨0, by omega, rfl, Below.refl _ _, HB⟩
                  case round =>
                    obtain ⟨j, hj, rfl, hb, HA⟩ := hrel
                    have hsz := hb.size
                    have hbr : Below w.heap.size w wr := hbw.trans (hb.mono (by omega))
                    have gc := (g0.below hb (by omega)).cell
                    have s0 := gc 0; have s1 := gc 1; have s2 := gc 2; have s3 := gc 3; have s4 := gc 4
                    simp at s0 s1 s2 s3 s4
                    clear gc
                    by_cases hlt : j < s.rules.length
                    · have hrr := HRR.out.below hbr
                      obtain ⟨ab, ao, hra, hblk, hcell⟩ := hrr.1.at_ (k := j) (fun _ => rfl) hlt
                      have s4' : wr.cell? ⟨w.heap.size, 4, none⟩ = some (.slice (some ⟨ab, ao, none⟩) s.rules.length s.rc) := by rw [s4, ← hra]
                      have HD := Lib.hid (rulesB_drop (s := s) hlt)
                      have hrl := (hrr.2.2 _ (List.getElem_mem hlt)).more hbr.size
                      obtain ⟨r, hre⟩ : ∃ t, s.rules[j] = t := ⟨_, rfl⟩
                      rw [hre] at hcell HD hrl
                      have c0 : wr.cell? ⟨ab, ao + j * 5, none⟩ = some (.slice r.wa r.when_.length r.wc) := hcell 0 _ rfl
                      have c1 : wr.cell? ⟨ab, ao + j * 5 + 1, none⟩ = some (.int .i64 r.kinds) := hcell 1 _ rfl
                      have c2 : wr.cell? ⟨ab, ao + j * 5 + 2, none⟩ = some (.int .i64 r.rank) := hcell 2 _ rfl
                      have c3 : wr.cell? ⟨ab, ao + j * 5 + 3, none⟩ = some (.slice r.ua r.unless_.length r.uc) := hcell 3 _ rfl
                      have c4 : wr.cell? ⟨ab, ao + j * 5 + 4, none⟩ = some (.int .i64 r.says) := hcell 4 _ rfl
                      obtain ⟨hw1, hw2, hl1, hl2, hok⟩ := hrl
                      have HTS := fun W (hW : Below wr.heap.size wr W) => Lib.hid (rtests_any s (.slice (some ⟨ab, ao, none⟩) s.rules.length s.rc) r.wa r.wc r.when_ W hs hl1 hok ((hw1.below hW).more hW.size))
                      have HUN := Lib.hid hw2
                      have l0 : w.heap.size < wr.heap.size := by omega
                      clear hcell hre hra hrr s4 hw1 hw2 hok
                      by_cases e1 : testsB s r.when_ = true
                      · rw [e1] at HTS
                        by_cases e2 : inB r.kinds 0 ((P2 : Int) - 1) = true
                        · by_cases e3 : inB r.rank (-100) 100 = true
                          · by_cases e4 : 5 < r.unless_.length
                            · have e5 : decide (5 < (r.unless_.length : Int)) = true := by simp; omega
                              have e6 : decide (5 < r.unless_.length) = true := by simp; omega
                              have e7 : decide (r.unless_.length ≤ 5) = false := by simp; omega
                              clear e4
                              have HT : Hid (schB s = false) := (by rw [HA.out, HD.out]; simp only [ruleB, e7]; simp : schB s = false)
                              go_wp2_with (first | (go_at_call 60; refine (rin_val (by assumption) _).mono ?_; rintro e w' ⟨rfl, rfl⟩) | (go_at_call 61; refine ((HTS _ (by (repeat (first | exact Below.refl _ _ | assumption | (refine Below.alloc ?_ (by first | omega | (simp; omega) | (simp; done)) _) | (refine Below.setCell ?_ (by first | omega | (simp; omega) | (simp; done)) _) | (refine Below.drew ?_) | (refine belowN ?_ _) | (refine Below.trans ?_ (Below.mono ‹Below _ _ _› (by first | omega | (simp; omega) | (simp; done)))))))).out).mono ?_; rintro e w2 ⟨rfl, hb2⟩; have hc2 := fun b o (h : b < wr.heap.size + 1) => (bcell hb2).1 b o (by simp; omega); have hz2 : wr.heap.size + 1 ≤ w2.heap.size := (by have := hb2.size; simp at this; omega)))
                              go_ret
                              exact ⟨ret_bool HT.out.symm, by (repeat (first | exact Below.refl _ _ | assumption | (refine Below.alloc ?_ (by first | omega | (simp; omega) | (simp; done)) _) | (refine Below.setCell ?_ (by first | omega | (simp; omega) | (simp; done)) _) | (refine Below.drew ?_) | (refine belowN ?_ _) | (refine Below.trans ?_ (Below.mono ‹Below _ _ _› (by first | omega | (simp; omega) | (simp; done))))))⟩
                            · have e5 : decide (5 < (r.unless_.length : Int)) = false := by simp; omega
                              have e6 : decide (5 < r.unless_.length) = false := by simp; omega
                              have e7 : decide (r.unless_.length ≤ 5) = true := by simp; omega
                              clear e4
                              by_cases e8 : inB r.says 0 (s.answers - 1) = true
                              · have e2' : inB r.kinds 0 (2 ^ s.kinds.toNat - 1) = true := by rw [← HPP.out]; exact e2
                                have HC : Hid (ruleB s j r = ascB j (-1) r.unless_) := (by simp only [ruleB, e1, e2', e3, e7, e8]; simp : ruleB s j r = ascB j (-1) r.unless_)
                                clear e2'
                                go_wp2_with (first | (go_at_call 60; refine (rin_val (by assumption) _).mono ?_; rintro e w' ⟨rfl, rfl⟩) | (go_at_call 61; refine ((HTS _ (by (repeat (first | exact Below.refl _ _ | assumption | (refine Below.alloc ?_ (by first | omega | (simp; omega) | (simp; done)) _) | (refine Below.setCell ?_ (by first | omega | (simp; omega) | (simp; done)) _) | (refine Below.drew ?_) | (refine belowN ?_ _) | (refine Below.trans ?_ (Below.mono ‹Below _ _ _› (by first | omega | (simp; omega) | (simp; done)))))))).out).mono ?_; rintro e w2 ⟨rfl, hb2⟩; have hc2 := fun b o (h : b < wr.heap.size + 1) => (bcell hb2).1 b o (by simp; omega); have hz2 : wr.heap.size + 1 ≤ w2.heap.size := (by have := hb2.size; simp at this; omega)))
                                refine wp_world (fun W => Below wr.heap.size wr W ∧ wr.heap.size < W.heap.size ∧ Blk W wr.heap.size #[.slice r.wa r.when_.length r.wc, .int .i64 r.kinds, .int .i64 r.rank, .slice r.ua r.unless_.length r.uc, .int .i64 r.says] 82) ⟨by (repeat (first | exact Below.refl _ _ | assumption | (refine Below.alloc ?_ (by first | omega | (simp; omega) | (simp; done)) _) | (refine Below.setCell ?_ (by first | omega | (simp; omega) | (simp; done)) _) | (refine Below.drew ?_) | (refine belowN ?_ _) | (refine Below.trans ?_ (Below.mono ‹Below _ _ _› (by first | omega | (simp; omega) | (simp; done)))))), by omega, (hb2.block _ (by simp)).trans (Blk.at_ rfl)⟩ ?_
                                clear hc2 hb2 hz2 c0 c1 c2 c3 c4 HTS e1 e2 e3 e5 e6 e7 e8 s0 s1 s2 s3 s4'
                                rintro W3 ⟨hb3, hz3, gr⟩
                                obtain ⟨wo, rfl⟩ : ∃ wo : World, wo = wr := ⟨_, rfl⟩
                                go_loopw [7] (fun i wq => ∃ (k : Nat) (bb : Int), k ≤ r.unless_.length ∧ i = .int .i64 k ∧ Below W3.heap.size W3 wq ∧ -1 ≤ bb ∧ Hid (k = 0 → bb = -1) ∧ Hid (∀ q, k = q + 1 → r.unless_[q]? = some bb) ∧ Hid (ascB j (-1) r.unless_ = ascB j bb (r.unless_.drop k))) (fun i _ => r.unless_.length - (intOf i).toNat)
                                case atStart => exact ⟨0, -1, by omega, rfl, Below.refl _ _, by omega, fun _ => rfl, fun q h => by omega, rfl⟩
                                case round =>
                                  obtain ⟨k, bb, hk, rfl, hbq, hbb, hzero, hprev, HAS⟩ := hrel
                                  have hszq := hbq.size
                                  have hbwo : Below wo.heap.size wo wr := hb3.trans (hbq.mono (by omega))
                                  have HBR : Hid (Below w.heap.size w wr) := (hbr.trans (hbwo.mono (by omega)) : Below w.heap.size w wr)
                                  have c3 := (gr.below hbq (by omega)).cell 3
                                  simp at c3
                                  by_cases hlk : k < r.unless_.length
                                  · obtain ⟨ub, uo, hua, hub, hcell⟩ := (HUN.out.below hbwo).at_ (k := k) (fun _ => rfl) hlk
                                    have HDK := Lib.hid (List.drop_eq_getElem_cons hlk)
                                    have hgu : r.unless_[k]? = some r.unless_[k] := List.getElem?_eq_getElem hlk
                                    have hcp : ∀ q, k = q + 1 → wr.cell? ⟨ub, uo + q, none⟩ = some (.int .i64 bb) := fun q hq => by
                                      have hq2 : q < r.unless_.length := by omega
                                      obtain ⟨ub2, uo2, hua2, _, hcell2⟩ := (HUN.out.below hbwo).at_ (k := q) (fun _ => rfl) hq2
                                      rw [hua] at hua2; cases hua2
                                      have h1 := hprev.out q hq
                                      rw [List.getElem?_eq_getElem hq2] at h1
                                      have h2 := hcell2 0 _ rfl
                                      rw [Option.some.inj h1] at h2
                                      simpa using h2
                                    obtain ⟨u, hu⟩ : ∃ t, r.unless_[k] = t := ⟨_, rfl⟩
                                    rw [hu] at hcell HDK hgu
                                    have cu : wr.cell? ⟨ub, uo + k, none⟩ = some (.int .i64 u) := by have := hcell 0 _ rfl; simpa using this
                                    rw [hua] at c3
                                    have HGU := Lib.hid hgu
                                    have hw1 : IntKind.i64.wrap ((j : Int) - 1) = (j : Int) - 1 := IntWalk.i64_in _ (by omega)
                                    clear hcell hu hua hgu
                                    by_cases f1 : inB u 0 ((j : Int) - 1) = true
                                    · have f2 := inB_iff.1 f1
                                      cases k with
                                      | zero =>
                                        have HST : Hid (ascB j (-1) r.unless_ = ascB j u (r.unless_.drop (0 + 1))) := (by have := hzero.out rfl; rw [HAS.out, HDK.out]; exact ascB_step (by omega) : ascB j (-1) r.unless_ = ascB j u (r.unless_.drop (0 + 1)))
                                        clear hcp
                                        rw [Nat.add_zero] at cu
                                        go_wp2
                                        (refine wp_region_ext (by kernel_rfl) (by kernel_rfl) ?_; (repeat (go_big_quiet_step((go_at_call 60; first | exact Calls.ext_same (rin_val (by assumption) _))))); with_reducible refine wpQuiet_nil ?_; intro w2 hw2; have hb1 := ext_below hw2; clear hw2)
                                        go_wp2
                                        go_roundw
                                        case rel => exact ⟨0 + 1, u, by omega, by go_num, by (repeat (first | exact Below.refl _ _ | assumption | (refine Below.alloc ?_ (by first | omega | (simp; omega) | (simp; done)) _) | (refine Below.setCell ?_ (by first | omega | (simp; omega) | (simp; done)) _) | (refine Below.drew ?_) | (refine belowN ?_ _) | (refine Below.trans ?_ (Below.mono ‹Below _ _ _› (by first | omega | (simp; omega) | (simp; done)))))), by omega, fun h => by omega, fun q hq => by obtain rfl : q = 0 := (by omega); exact HGU.out, HST⟩
                                        case measure => simp [intOf]; omega
                                      | succ q =>
                                        have cp := hcp q rfl
                                        have hq0 : (0 : Int) ≤ (q : Int) := by omega
                                        have hq1 : (q : Int) < (r.unless_.length : Int) := by omega
                                        have hw2 : IntKind.i64.wrap (q : Int) = (q : Int) := IntWalk.i64_in _ (by omega)
                                        clear hcp
                                        by_cases hcmp : u ≤ bb
                                        · have HT : Hid (schB s = false) := (by rw [HA.out, HD.out, HC.out, HAS.out, HDK.out, ascB_no (by omega)]; rfl : schB s = false)
                                          go_wp2
                                          (refine wp_region_ext (by kernel_rfl) (by kernel_rfl) ?_; (repeat (go_big_quiet_step((go_at_call 60; first | exact Calls.ext_same (rin_val (by assumption) _))))); with_reducible refine wpQuiet_nil ?_; intro w2 hw2; have hb1 := ext_below hw2; clear hw2)
                                          go_wp2
                                          go_ret
                                          exact ⟨ret_bool HT.out.symm, HBR.out.trans (hb1.mono HBR.out.size)⟩
                                        · have HST : Hid (ascB j (-1) r.unless_ = ascB j u (r.unless_.drop (q + 1 + 1))) := (by rw [HAS.out, HDK.out]; exact ascB_step (by omega) : ascB j (-1) r.unless_ = ascB j u (r.unless_.drop (q + 1 + 1)))
                                          have hcmp2 : decide (u ≤ bb) = false := by simpa using hcmp
                                          go_wp2
                                          (refine wp_region_ext (by kernel_rfl) (by kernel_rfl) ?_; (repeat (go_big_quiet_step((go_at_call 60; first | exact Calls.ext_same (rin_val (by assumption) _))))); with_reducible refine wpQuiet_nil ?_; intro w2 hw2; have hb1 := ext_below hw2; clear hw2)
                                          go_wp2
                                          go_roundw
                                          case rel => exact ⟨q + 1 + 1, u, by omega, by go_num, by (repeat (first | exact Below.refl _ _ | assumption | (refine Below.alloc ?_ (by first | omega | (simp; omega) | (simp; done)) _) | (refine Below.setCell ?_ (by first | omega | (simp; omega) | (simp; done)) _) | (refine Below.drew ?_) | (refine belowN ?_ _) | (refine Below.trans ?_ (Below.mono ‹Below _ _ _› (by first | omega | (simp; omega) | (simp; done)))))), by omega, fun h => by omega, fun q' hq => by obtain rfl : q' = q + 1 := (by omega); exact HGU.out, HST⟩
                                          case measure => simp [intOf]; omega
                                    · simp only [Bool.not_eq_true] at f1
                                      have f2 := inB_not.1 f1
                                      have HT : Hid (schB s = false) := (by rw [HA.out, HD.out, HC.out, HAS.out, HDK.out, ascB_no (by omega)]; rfl : schB s = false)
                                      clear hcp f2
                                      go_wp2
                                      (refine wp_region_ext (by kernel_rfl) (by kernel_rfl) ?_; (repeat (go_big_quiet_step((go_at_call 60; first | exact Calls.ext_same (rin_val (by assumption) _))))); with_reducible refine wpQuiet_nil ?_; intro w2 hw2; have hb1 := ext_below hw2; clear hw2)
                                      go_wp2
                                      go_ret
                                      exact ⟨ret_bool HT.out.symm, HBR.out.trans (hb1.mono HBR.out.size)⟩
                                  · obtain rfl : k = r.unless_.length := by omega
                                    have HNX : Hid (schB s = rulesB s (j + 1) (s.rules.drop (j + 1))) := (by rw [HA.out, HD.out, HC.out, HAS.out, List.drop_eq_nil_of_le (Nat.le_refl _)]; rfl : schB s = rulesB s (j + 1) (s.rules.drop (j + 1)))
                                    go_wp2
                                    go_roundw
                                    case rel => exact ⟨j + 1, by omega, by go_num, hb.trans (hbwo.mono (by omega)), HNX⟩
                                    case measure => simp [intOf]; omega
                              · simp only [Bool.not_eq_true] at e8
                                have HT : Hid (schB s = false) := (by rw [HA.out, HD.out]; simp only [ruleB, e8]; simp : schB s = false)
                                go_wp2_with (first | (go_at_call 60; refine (rin_val (by assumption) _).mono ?_; rintro e w' ⟨rfl, rfl⟩) | (go_at_call 61; refine ((HTS _ (by (repeat (first | exact Below.refl _ _ | assumption | (refine Below.alloc ?_ (by first | omega | (simp; omega) | (simp; done)) _) | (refine Below.setCell ?_ (by first | omega | (simp; omega) | (simp; done)) _) | (refine Below.drew ?_) | (refine belowN ?_ _) | (refine Below.trans ?_ (Below.mono ‹Below _ _ _› (by first | omega | (simp; omega) | (simp; done)))))))).out).mono ?_; rintro e w2 ⟨rfl, hb2⟩; have hc2 := fun b o (h : b < wr.heap.size + 1) => (bcell hb2).1 b o (by simp; omega); have hz2 : wr.heap.size + 1 ≤ w2.heap.size := (by have := hb2.size; simp at this; omega)))
                                go_ret
                                exact ⟨ret_bool HT.out.symm, by (repeat (first | exact Below.refl _ _ | assumption | (refine Below.alloc ?_ (by first | omega | (simp; omega) | (simp; done)) _) | (refine Below.setCell ?_ (by first | omega | (simp; omega) | (simp; done)) _) | (refine Below.drew ?_) | (refine belowN ?_ _) | (refine Below.trans ?_ (Below.mono ‹Below _ _ _› (by first | omega | (simp; omega) | (simp; done))))))⟩
                          · simp only [Bool.not_eq_true] at e3
                            have HT : Hid (schB s = false) := (by rw [HA.out, HD.out]; simp only [ruleB, e3]; simp : schB s = false)
                            go_wp2_with (first | (go_at_call 60; refine (rin_val (by assumption) _).mono ?_; rintro e w' ⟨rfl, rfl⟩) | (go_at_call 61; refine ((HTS _ (by (repeat (first | exact Below.refl _ _ | assumption | (refine Below.alloc ?_ (by first | omega | (simp; omega) | (simp; done)) _) | (refine Below.setCell ?_ (by first | omega | (simp; omega) | (simp; done)) _) | (refine Below.drew ?_) | (refine belowN ?_ _) | (refine Below.trans ?_ (Below.mono ‹Below _ _ _› (by first | omega | (simp; omega) | (simp; done)))))))).out).mono ?_; rintro e w2 ⟨rfl, hb2⟩; have hc2 := fun b o (h : b < wr.heap.size + 1) => (bcell hb2).1 b o (by simp; omega); have hz2 : wr.heap.size + 1 ≤ w2.heap.size := (by have := hb2.size; simp at this; omega)))
                            go_ret
                            exact ⟨ret_bool HT.out.symm, by (repeat (first | exact Below.refl _ _ | assumption | (refine Below.alloc ?_ (by first | omega | (simp; omega) | (simp; done)) _) | (refine Below.setCell ?_ (by first | omega | (simp; omega) | (simp; done)) _) | (refine Below.drew ?_) | (refine belowN ?_ _) | (refine Below.trans ?_ (Below.mono ‹Below _ _ _› (by first | omega | (simp; omega) | (simp; done))))))⟩
                        · simp only [Bool.not_eq_true] at e2
                          have e2' : inB r.kinds 0 (2 ^ s.kinds.toNat - 1) = false := by rw [← HPP.out]; exact e2
                          have HT : Hid (schB s = false) := (by rw [HA.out, HD.out]; simp only [ruleB, e2']; simp : schB s = false)
                          go_wp2_with (first | (go_at_call 60; refine (rin_val (by assumption) _).mono ?_; rintro e w' ⟨rfl, rfl⟩) | (go_at_call 61; refine ((HTS _ (by (repeat (first | exact Below.refl _ _ | assumption | (refine Below.alloc ?_ (by first | omega | (simp; omega) | (simp; done)) _) | (refine Below.setCell ?_ (by first | omega | (simp; omega) | (simp; done)) _) | (refine Below.drew ?_) | (refine belowN ?_ _) | (refine Below.trans ?_ (Below.mono ‹Below _ _ _› (by first | omega | (simp; omega) | (simp; done)))))))).out).mono ?_; rintro e w2 ⟨rfl, hb2⟩; have hc2 := fun b o (h : b < wr.heap.size + 1) => (bcell hb2).1 b o (by simp; omega); have hz2 : wr.heap.size + 1 ≤ w2.heap.size := (by have := hb2.size; simp at this; omega)))
                          go_ret
                          exact ⟨ret_bool HT.out.symm, by (repeat (first | exact Below.refl _ _ | assumption | (refine Below.alloc ?_ (by first | omega | (simp; omega) | (simp; done)) _) | (refine Below.setCell ?_ (by first | omega | (simp; omega) | (simp; done)) _) | (refine Below.drew ?_) | (refine belowN ?_ _) | (refine Below.trans ?_ (Below.mono ‹Below _ _ _› (by first | omega | (simp; omega) | (simp; done))))))⟩
                      · simp only [Bool.not_eq_true] at e1
                        rw [e1] at HTS
                        have HT : Hid (schB s = false) := (by rw [HA.out, HD.out]; simp only [ruleB, e1]; simp : schB s = false)
                        go_wp2_with (first | (go_at_call 60; refine (rin_val (by assumption) _).mono ?_; rintro e w' ⟨rfl, rfl⟩) | (go_at_call 61; refine ((HTS _ (by (repeat (first | exact Below.refl _ _ | assumption | (refine Below.alloc ?_ (by first | omega | (simp; omega) | (simp; done)) _) | (refine Below.setCell ?_ (by first | omega | (simp; omega) | (simp; done)) _) | (refine Below.drew ?_) | (refine belowN ?_ _) | (refine Below.trans ?_ (Below.mono ‹Below _ _ _› (by first | omega | (simp; omega) | (simp; done)))))))).out).mono ?_; rintro e w2 ⟨rfl, hb2⟩; have hc2 := fun b o (h : b < wr.heap.size + 1) => (bcell hb2).1 b o (by simp; omega); have hz2 : wr.heap.size + 1 ≤ w2.heap.size := (by have := hb2.size; simp at this; omega)))
                        go_ret
                        exact ⟨ret_bool HT.out.symm, by (repeat (first | exact Below.refl _ _ | assumption | (refine Below.alloc ?_ (by first | omega | (simp; omega) | (simp; done)) _) | (refine Below.setCell ?_ (by first | omega | (simp; omega) | (simp; done)) _) | (refine Below.drew ?_) | (refine belowN ?_ _) | (refine Below.trans ?_ (Below.mono ‹Below _ _ _› (by first | omega | (simp; omega) | (simp; done))))))⟩
                    · have HT : Hid (schB s = true) := (by rw [HA.out, List.drop_eq_nil_of_le (by omega)]; rfl : schB s = true)
                      go_wp2
                      go_ret
                      exact ⟨ret_bool HT.out.symm, hbr⟩
            · have d6 : decide (30 < (s.rules.length : Int)) = true := by simp; omega
              have d7 : decide (30 < s.rules.length) = true := by simp; omega
              have HT : Hid (schB s = false) := (by have : ¬ s.rules.length ≤ 30 := b6
                                                    simp [schB, baseB, this] : schB s = false)
              go_enter Try.func19, Try.ntmps19
              go_wp2_with (first | (go_at_call 60; refine (rin_val (by assumption) _).mono ?_; rintro e w' ⟨rfl, rfl⟩) | (go_at_call 40; refine ((HCH (by assumption) _).out).mono ?_; rintro e w1 ⟨rfl, hb1⟩; have hc1 := fun b o (h : b < w.heap.size + 1) => (bcell hb1).1 b o (by simp; omega)))
              go_ret
              exact ⟨ret_bool HT.out.symm, by (repeat (first | exact Below.refl _ _ | assumption | (refine Below.alloc ?_ (by first | omega | (simp; omega) | (simp; done)) _) | (refine Below.setCell ?_ (by first | omega | (simp; omega) | (simp; done)) _) | (refine Below.drew ?_) | (refine belowN ?_ _) | (refine Below.trans ?_ (Below.mono ‹Below _ _ _› (by first | omega | (simp; omega) | (simp; done))))))⟩
          · simp only [Bool.not_eq_true] at b5
            have HT : Hid (schB s = false) := (by simp [schB, baseB, b5] : schB s = false)
            go_enter Try.func19, Try.ntmps19
            go_wp2_with (first | (go_at_call 60; refine (rin_val (by assumption) _).mono ?_; rintro e w' ⟨rfl, rfl⟩) | (go_at_call 40; refine ((HCH (by assumption) _).out).mono ?_; rintro e w1 ⟨rfl, hb1⟩; have hc1 := fun b o (h : b < w.heap.size + 1) => (bcell hb1).1 b o (by simp; omega)))
            go_ret
            exact ⟨ret_bool HT.out.symm, by (repeat (first | exact Below.refl _ _ | assumption | (refine Below.alloc ?_ (by first | omega | (simp; omega) | (simp; done)) _) | (refine Below.setCell ?_ (by first | omega | (simp; omega) | (simp; done)) _) | (refine Below.drew ?_) | (refine belowN ?_ _) | (refine Below.trans ?_ (Below.mono ‹Below _ _ _› (by first | omega | (simp; omega) | (simp; done))))))⟩
        · simp only [Bool.not_eq_true] at b4
          have HT : Hid (schB s = false) := (by simp [schB, baseB, b4] : schB s = false)
          go_enter Try.func19, Try.ntmps19
          go_wp2_with (first | (go_at_call 60; refine (rin_val (by assumption) _).mono ?_; rintro e w' ⟨rfl, rfl⟩) | (go_at_call 40; refine ((HCH (by assumption) _).out).mono ?_; rintro e w1 ⟨rfl, hb1⟩; have hc1 := fun b o (h : b < w.heap.size + 1) => (bcell hb1).1 b o (by simp; omega)))
          go_ret
          exact ⟨ret_bool HT.out.symm, by (repeat (first | exact Below.refl _ _ | assumption | (refine Below.alloc ?_ (by first | omega | (simp; omega) | (simp; done)) _) | (refine Below.setCell ?_ (by first | omega | (simp; omega) | (simp; done)) _) | (refine Below.drew ?_) | (refine belowN ?_ _) | (refine Below.trans ?_ (Below.mono ‹Below _ _ _› (by first | omega | (simp; omega) | (simp; done))))))⟩
    · simp only [Bool.not_eq_true] at b2
      have HT : Hid (schB s = false) := (by simp [schB, baseB, b2] : schB s = false)
      go_enter Try.func19, Try.ntmps19
      go_wp2_with (first | (go_at_call 60; refine (rin_val (by assumption) _).mono ?_; rintro e w' ⟨rfl, rfl⟩))
      go_ret
      exact ⟨ret_bool HT.out.symm, by (repeat (first | exact Below.refl _ _ | assumption | (refine Below.alloc ?_ (by first | omega | (simp; omega) | (simp; done)) _) | (refine Below.setCell ?_ (by first | omega | (simp; omega) | (simp; done)) _) | (refine Below.drew ?_) | (refine belowN ?_ _) | (refine Below.trans ?_ (Below.mono ‹Below _ _ _› (by first | omega | (simp; omega) | (simp; done))))))⟩
  · simp only [Bool.not_eq_true] at b1
    have HT : Hid (schB s = false) := (by simp [schB, baseB, b1] : schB s = false)
    go_enter Try.func19, Try.ntmps19
    go_wp2_with (first | (go_at_call 60; refine (rin_val (by assumption) _).mono ?_; rintro e w' ⟨rfl, rfl⟩))
    go_ret
    exact ⟨ret_bool HT.out.symm, by (repeat (first | exact Below.refl _ _ | assumption | (refine Below.alloc ?_ (by first | omega | (simp; omega) | (simp; done)) _) | (refine Below.setCell ?_ (by first | omega | (simp; omega) | (simp; done)) _) | (refine Below.drew ?_) | (refine belowN ?_ _) | (refine Below.trans ?_ (Below.mono ‹Below _ _ _› (by first | omega | (simp; omega) | (simp; done))))))⟩
end Go.Proofs.Ytidlmbajpbbilaa

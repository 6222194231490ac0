/- The walk of the law OddsCounts. -/
import Derived.Test.YtmfbiohdmhbkoaaHg
import Derived.Test.YtmfbiohdmhbkoaaHe
import Derived.Test.YtmfbiohdmhbkoaaGp
import Derived.Test.YtmfbiohdmhbkoaaQc
namespace Go.Proofs.Ytmfbiohdmhbkoaa
open Go.RowKit

theorem sum_le_len {m : Int} : ∀ {l : List Int}, (∀ x ∈ l, x ≤ m) → sumL l ≤ m * l.length
  | [], _ => by simp [sumL]
  | x :: l, h => by
    have := sum_le_len (l := l) fun y hy => h y (by simp [hy])
    have hx := h x (by simp)
    rw [sumL_cons, List.length_cons]
    have : m * ((l.length + 1 : Nat) : Int) = m * l.length + m := by rw [show ((l.length + 1 : Nat) : Int) = (l.length : Int) + 1 by omega, Int.mul_add, Int.mul_one]
    omega
theorem errW_two {l : List Int} (h : errW l ≠ 0) (hl : l.length ≤ 4096) : errW l = 2 := by
  unfold errW at h ⊢
  rw [if_neg (by omega)] at h ⊢
  split
  · rename_i hh; rw [if_pos hh] at h; exact absurd rfl h
  · rfl
theorem of1_any {a : Nat} {l : List Int} {X Y : Int} (W : World) (A' : Option Addr) (k' : Nat) (hl : l.length ≤ 1000000) (h : Sl intCell 1 W W.heap.size A' l) (e : ofR l [(a : Int)] = (X, Y, 0)) :
    Calls Try.prog 34 #[.slice A' l.length k', .slice (some ⟨W.heap.size, 0, none⟩) 1 1] (W.alloc (.cells #[.int .i64 (a : Int)] 3)) (RetC (X, Y, 0) (W.alloc (.cells #[.int .i64 (a : Int)] 3))) := by
  have hb : Below W.heap.size W (W.alloc (.cells #[.int .i64 (a : Int)] 3)) := bla (Below.refl _ _)
  have := of_any A' (some ⟨W.heap.size, 0, none⟩) k' 1 l [(a : Int)] (W.alloc (.cells #[.int .i64 (a : Int)] 3)) (by omega) (by simp) ((h.below hb).more hb.size) (sl_one (Blk.new W _ _) rfl rfl)
  rw [e] at this
  exact this
set_option maxRecDepth 100000 in
set_option maxHeartbeats 16000000 in
theorem lwcounts_any (A : Option Addr) (c : Nat) (l : List Int) (p q : Int) (w : World) (p0 : 0 ≤ p) (p1 : p < 256) (q0 : 0 ≤ q) (q1 : q < 256) (hz : A = none → c = 0) (hr : Sl intCell 1 w w.heap.size A l) :
    Calls Try.prog 12 #[.slice A l.length c, .agg #[.int .u8 p, .int .u8 q]] w fun e w' => e = .returned (.bool true) ∧ Below w.heap.size w w' := by
  obtain ⟨i0, hi, iz0, iz1, iz2⟩ := info_parts infoInt
  have HR := Lib.hid hr; have HZ := Lib.hid hz
  clear hr hz
  by_cases c1 : 40 < l.length
  · have d1 : decide ((40 : Int) < (l.length : Int)) = true := by simp; omega
    go_enter Try.func12, Try.ntmps12
    go_wp2_with (go_at_call 16; refine (known_any _).mono ?_; rintro _ W1 ⟨rfl, hb1⟩)
    go_ret
    exact ⟨rfl, bl3 (Below.refl _ _) hb1⟩
  · have d1 : decide ((40 : Int) < (l.length : Int)) = false := by simp; omega
    have hlen : l.length ≤ 40 := by omega
    clear c1
    go_enter Try.func12, Try.ntmps12
    go_wp2
    refine gen_w (fun W => Below w.heap.size w W ∧ Blk W w.heap.size #[.int .u8 p, .int .u8 q] 44) ⟨by (repeat (first | exact Below.refl _ _ | assumption | (refine Below.alloc ?_ (by first | omega | (simp; omega) | (simp; done)) _) | (refine Below.setCell ?_ (by first | omega | (simp; omega) | (simp; done)) _) | (refine Below.drew ?_) | (refine belowN ?_ _) | (refine Below.trans ?_ (Below.mono ‹Below _ _ _› (by first | omega | (simp; omega) | (simp; done)))))), Blk.at_ rfl⟩ ?_
    rintro w0 ⟨hw0, gB⟩
    have HR0 := Lib.hid ((HR.out.below hw0).more hw0.size)
    go_loop [5] (fun i => ∃ k : Nat, k ≤ l.length ∧ i = .int .i64 k ∧ Hid (∀ x ∈ l.take k, x ≤ 200)) (fun i => l.length - (intOf i).toNat)
    case atStart => exact ⟨0, by omega, rfl, (fun x hx => by simp at hx : ∀ x ∈ l.take 0, x ≤ 200)⟩
    case round =>
      obtain ⟨k, hk, rfl, HLE⟩ := hrel
      by_cases hlt : k < l.length
      · obtain ⟨lb, lo, hA, hlb, hc⟩ := HR0.out.int_at hlt
        have HTK := Lib.hid (take_snoc_int l k hlt)
        obtain ⟨x, hx⟩ : ∃ x, x = l[k] := ⟨_, rfl⟩
        rw [← hx] at hc HTK
        have hj0 : (0 : Int) ≤ (k : Int) := by omega
        have hj1 : (k : Int) < (l.length : Int) := by omega
        clear hx
        by_cases hb : 200 < x
        · have d2 : decide (200 < x) = true := by simpa using hb
          go_wp2_with (go_at_call 16; refine (known_any _).mono ?_; rintro _ W1 ⟨rfl, hb1⟩)
          go_ret
          exact ⟨rfl, bl2 hw0 hb1⟩
        · have d2 : decide (200 < x) = false := by simpa using hb
          have HLE2 : Hid (∀ y ∈ l.take (k + 1), y ≤ 200) := (fun y hy => by
            rw [HTK.out] at hy
            rcases List.mem_append.1 hy with h | h
            · exact HLE.out y h
            · rw [List.mem_singleton.1 h]; omega : ∀ y ∈ l.take (k + 1), y ≤ 200)
          go_wp2
          go_round
          case rel => exact ⟨k + 1, by omega, by go_num, HLE2⟩
          case measure => simp [intOf]; omega
      · obtain rfl : k = l.length := by omega
        have HLE : Hid (∀ x ∈ l, x ≤ 200) := (by have h := HLE.out; rwa [List.take_length] at h : ∀ x ∈ l, x ≤ 200)
        by_cases he : errW l = 0
        · have HOK := Lib.hid (errW_zero.1 he)
          have HTO : Hid (totalR l = (sumL l, 0)) := (by unfold totalR; rw [if_pos he] : totalR l = _)
          have hlp := HOK.out.pos_len
          have e0 : ((l.length : Int) == 0) = false := by simp; intro h; rw [h] at hlp; simp at hlp
          obtain ⟨N, hN⟩ := Int.eq_ofNat_of_zero_le (show 0 ≤ sumL l by have := HOK.out.pos; omega)
          rw [hN] at HTO
          have hN8 : N ≤ 8000 := by have := sum_le_len HLE.out; omega
          have HN := Lib.hid hN
          clear he hN
          go_wp2_with (first | (go_at_call 18; refine (own_any A c l w0 (by omega) HZ.out HR0.out).mono ?_; rintro _ W1 ⟨A1, k1, rfl, hs1, -, hb1⟩) | (go_at_call 32; refine (total_any A1 k1 l W1 (by omega) hs1).mono ?_; rw [HTO.out]; rintro _ W2 ⟨rfl, hb2⟩; refine Hid.out ?_))
          have hx2 := bl2 hb1 hb2
          have hw2 := bl2 hw0 hx2
          have gB2 := gB.below hx2 gB.lt
          have hglt := gB2.lt
          have HR2 := Lib.hid ((HR0.out.below hx2).more hx2.size)
          clear hs1 hb1 hb2 hx2 HR0 gB hw0
          refine Lib.hid ?_
          go_wp2_with (at_make; refine wpList_make_arr _ rfl _ _ rfl i0 uInts hi iz0 iz1 iz2 .i64 .i64 _ _ l.length rfl rfl rfl rfl (by omega) ?_; intro w3 ha3 hw3)
          obtain ⟨g, hg⟩ : ∃ g, g = W2.heap.size := ⟨_, rfl⟩
          have hgw : w.heap.size < g := by omega
          have hgl : g < w3.heap.size := by have := ha3.lt_; omega
          have HA3 : Hid (Arr w3 g (cntP l 0)) := (by rw [hg]; exact ha3 : Arr w3 g _)
          have gB3 := gB2.below hw3 gB2.lt
          have hw3' := bl2 hw2 hw3
          rw [← hg]
          clear ha3 hg hw3 HR2 gB2 hw2
          refine Lib.hid ?_
          go_wp2
          go_loopw [9, 10, 11] (fun vx _ _ wr => ∃ v : Nat, v ≤ N ∧ vx = .int .i64 v ∧ Hid (Arr wr g (cntP l v)) ∧ Below w.heap.size w wr ∧ Blk wr w.heap.size #[.int .u8 p, .int .u8 q] 44) (fun vx _ _ _ => N - (intOf vx).toNat)
          case atStart => exact ⟨0, by omega, rfl, HA3, hw3', gB3⟩
          case round =>
            clear HA3 hw3' gB3
            obtain ⟨v, hv, rfl, HA, hwr, gBr⟩ := hrel
            have HRr := Lib.hid ((HR.out.below hwr).more hwr.size)
            have hgr := HA.out.lt_
            by_cases hlt : v < N
            · obtain ⟨k1', k2', k3'⟩ := pickK_spec l v HOK.out.nn (by rw [HN.out]; omega) (by omega)
              have HPK : Hid (pickR l (v : Int) = ((pickK l v : Int), 0)) := (by
                unfold pickR
                rw [if_neg (fun h => h (errW_zero.2 HOK.out)), if_neg (by rw [HN.out]; omega)] : pickR l (v : Int) = _)
              have HNX : Hid (cntP l (v + 1) = (cntP l v).set (pickK l v) ((cntP l v).getD (pickK l v) 0 + 1)) := (rfl : cntP l (v + 1) = _)
              obtain ⟨D0, D1⟩ := cntP_bd HOK.out.nn (v := v) (by rw [HN.out]; omega) k1'
              have D2 := HLE.out _ (List.getElem_mem k1')
              obtain ⟨K, hK⟩ : ∃ K, K = pickK l v := ⟨_, rfl⟩
              rw [← hK] at HPK HNX k1' D0
              have hKc : K < (cntP l v).length := by rw [cntP_len]; exact k1'
              have D3 : (cntP l v).getD K 0 ≤ 200 := by rw [hK]; omega
              obtain ⟨D, hD⟩ : ∃ D, D = (cntP l v).getD K 0 := ⟨_, rfl⟩
              have HD : Hid ((cntP l v)[K]? = some D) := (by rw [hD, List.getD_eq_getElem?_getD, List.getElem?_eq_getElem hKc]; rfl : (cntP l v)[K]? = some D)
              rw [← hD] at HNX D0 D3
              clear hD hK hKc k2' k3' D1 D2
              go_wp2_with (first | (go_at_call 18; refine (own_any A c l wr (by omega) HZ.out HRr.out).mono ?_; rintro _ W4 ⟨A4, k4, rfl, hs4, -, hb4⟩) | (go_at_call 26; refine (pick_any A4 k4 l v W4 (by omega) hs4).mono ?_; rw [HPK.out]; rintro _ W5 ⟨rfl, hb5⟩; refine Hid.out ?_))
              have hx5 := bl2 hb4 hb5
              have hw5 := bl2 hwr hx5
              have HA5 : Hid (Arr W5 g (cntP l v)) := (HA.out.below hx5 hgr : Arr W5 g (cntP l v))
              have gB5 := gBr.below hx5 gBr.lt
              have cA := HA5.out.cell_ HD.out
              have fA := Blk.free HA5.out K
              have j0 : (0 : Int) ≤ (K : Int) := by omega
              have j1 : (K : Int) < (l.length : Int) := by omega
              have d5 : decide ((l.length : Int) ≤ (K : Int)) = false := by simp; omega
              have d6 : decide (l.length ≤ K) = false := by simp; omega
              clear hs4 hb4 hb5 HA hwr HRr gBr hx5
              refine Lib.hid ?_
              go_wp2
              go_roundw
              case rel => exact ⟨v + 1, by omega, by go_num, (by rw [HNX.out]; exact HA5.out.put K _ : Arr _ g _), hw5.setCell (by show w.heap.size ≤ g; omega) _, gB5.far _ (by show w.heap.size ≠ g; omega) _⟩
              case measure => simp [intOf]; omega
            · obtain rfl : v = N := by omega
              have HAL : Hid (Arr wr g l) := (by
                have h := HA.out
                have e : (sumL l).toNat = v := by rw [HN.out]; simp
                rw [← e, cntP_all HOK.out] at h; exact h : Arr wr g l)
              clear HA
              go_wp2
              go_loopw [12] (fun i wq => ∃ k : Nat, k ≤ l.length ∧ i = .int .i64 k ∧ Below wr.heap.size wr wq) (fun i _ => l.length - (intOf i).toNat)
              case atStart => exact ⟨0, by omega, rfl, Below.refl _ _⟩
              case round =>
                obtain ⟨k, hk, rfl, hbq⟩ := hrel
                by_cases hlt : k < l.length
                · obtain ⟨lb, lo, hA, hlb, hc⟩ := (HRr.out.below hbq).int_at hlt
                  have hAk : Arr wr g l := HAL.out.below hbq hgr
                  have ca := hAk.at_ hlt
                  clear hAk
                  subst hA
                  obtain ⟨x, hx⟩ : ∃ x, x = l[k] := ⟨_, rfl⟩
                  rw [← hx] at ca hc
                  have hj0 : (0 : Int) ≤ (k : Int) := by omega
                  have hj1 : (k : Int) < (l.length : Int) := by omega
                  clear hx
                  go_wp2
                  (refine wp_region_ext (by kernel_rfl) (by kernel_rfl) ?_; (repeat (go_big_quiet_step((fail)))); with_reducible refine wpQuiet_nil ?_; intro w9 hw9; have hb9 := ext_below hw9; clear hw9)
                  go_wp2
                  go_roundw
                  case rel => exact ⟨k + 1, by omega, by go_num, bl2 hbq hb9⟩
                  case measure => simp [intOf]; omega
                · obtain rfl : k = l.length := by omega
                  obtain ⟨a, ha⟩ := Int.eq_ofNat_of_zero_le (Int.emod_nonneg p (show (l.length : Int) ≠ 0 by omega))
                  obtain ⟨b, hb⟩ := Int.eq_ofNat_of_zero_le (Int.emod_nonneg q (show (l.length : Int) ≠ 0 by omega))
                  have hal : a < l.length := by have := Int.emod_lt_of_pos p (show 0 < (l.length : Int) by omega); omega
                  have hbl : b < l.length := by have := Int.emod_lt_of_pos q (show 0 < (l.length : Int) by omega); omega
                  have hw5 := bl2 hwr hbq
                  have gB5 := gBr.below hbq gBr.lt
                  have s0 := gB5.cell 0; have s1 := gB5.cell 1
                  simp at s0 s1
                  have t0 : p.tmod (l.length : Int) = (a : Int) := by rw [Int.tmod_eq_emod_of_nonneg p0]; exact ha
                  have t1 : q.tmod (l.length : Int) = (b : Int) := by rw [Int.tmod_eq_emod_of_nonneg q0]; exact hb
                  have v0 : IntKind.i64.wrap p = p := IntWalk.i64_in _ ⟨by omega, by omega⟩
                  have v1 : IntKind.i64.wrap q = q := IntWalk.i64_in _ ⟨by omega, by omega⟩
                  have v2 : IntKind.i64.wrap (a : Int) = a := IntWalk.i64_in _ ⟨by omega, by omega⟩
                  have v3 : IntKind.i64.wrap (b : Int) = b := IntWalk.i64_in _ ⟨by omega, by omega⟩
                  clear ha hb hbq hwr gBr HAL HRr
                  go_upto_region 15 with fail
                  (refine wp_region_ext (by kernel_rfl) (by kernel_rfl) ?_; (repeat (go_big_quiet_step((fail)))); with_reducible refine wpQuiet_nil ?_; intro w9 hw9; have hb9 := ext_below hw9; clear hw9)
                  have hw9 := bl2 hw5 hb9
                  clear s0 s1 gB5 hw5 hb9 t0 t1 v0 v1 v2 v3
                  go_wp2
                  refine gen_w (fun W => W.ownsRow w9.heap.size 3 1 (.slice (some ⟨w9.heap.size, 0, none⟩) 0 0) 0 [] ∧ Below w9.heap.size w9 W) ⟨by simpa using World.ownsRow_made (e := 3) (size := 1) w9 #[] 0 (base := w9.heap.size) (Nat.le_refl _) (by simp) (by simp), (Below.refl _ _).alloc (Nat.le_refl _) _⟩ ?_
                  rintro W0 ⟨how, hbW⟩
                  have HOW := Lib.hid how
                  clear how
                  go_loopw [15, 16] (fun v i wq => ∃ j : Nat, j ≤ l.length ∧ i = .int .i64 j ∧ Hid (wq.ownsRow w9.heap.size 3 1 v (othersP a j).length (flat intCell (othersP a j))) ∧ Hid (Below w9.heap.size w9 wq)) (fun _ i _ => l.length - (intOf i).toNat)
                  case atStart => exact ⟨0, by omega, rfl, HOW, hbW⟩
                  case round =>
                    clear HOW hbW
                    obtain ⟨j, hj, rfl, hown, HBq⟩ := hrel
                    by_cases hjl : j < l.length
                    · by_cases hja : j = a
                      · subst hja
                        have HEQ : Hid (othersP j (j + 1) = othersP j j) := (by rw [othersP_succ, if_pos rfl, List.append_nil] : othersP j (j + 1) = othersP j j)
                        go_wp2
                        go_roundw
                        case rel => exact ⟨j + 1, by omega, by go_num, (by rw [HEQ.out]; exact hown), HBq⟩
                        case measure => simp [intOf]; omega
                      · have HEQ : Hid (othersP a (j + 1) = othersP a j ++ [(j : Int)]) := (by rw [othersP_succ, if_neg hja] : othersP a (j + 1) = _)
                        have hol := othersP_len a j
                        have d7 : ((j : Int) != (a : Int)) = true := by simp; omega
                        have hbq := HBq.out
                        have hsz := hbq.size
                        go_wp2_with (at_builtin; refine wpList_append_own _ rfl _ _ 22 rfl w9.heap.size 3 i0 (.int .i64 0) 1 8 uInts hi iz0 iz1 iz2 rfl (by decide) _ _ _ rfl (hown.out.alloc _) ⟨wr.heap.size, 0, none⟩ 1 1 [.int .i64 (j : Int)] rfl rfl (cell_one_new _ _ _) (by simp [Value.oneCell']) (by unfold maxLen; omega) (by omega) (by simp; omega) ?_; intro v' w3 hown3 hgrow _; refine Hid.out ?_)
                        have hb3 : Below w9.heap.size w9 w3 := (hbq.alloc hsz _).grown hgrow (by simp; omega) (fun g hg => (hown.out.lt g hg).1)
                        have HO3 : Hid (w3.ownsRow w9.heap.size 3 1 v' (othersP a (j + 1)).length (flat intCell (othersP a (j + 1)))) := (by
                          rw [HEQ.out, List.length_append, flat_int, List.map_append, ← flat_int]; exact hown3 : w3.ownsRow w9.heap.size 3 1 v' (othersP a (j + 1)).length (flat intCell (othersP a (j + 1))))
                        clear hown3 hgrow
                        refine Lib.hid ?_
                        go_wp2
                        go_roundw
                        case rel => exact ⟨j + 1, by omega, by go_num, HO3, hb3⟩
                        case measure => simp [intOf]; omega
                    · obtain rfl : j = l.length := by omega
                      obtain ⟨AO, kO, hvO, hsO, hzO⟩ := sl_of_own hown.out
                      subst hvO
                      have hwj := bl2 hw9 HBq.out
                      have HRj := Lib.hid ((HR.out.below hwj).more hwj.size)
                      have hOl := othersP_len a l.length
                      obtain ⟨E1, E2, E3⟩ := counts_one HOK.out hal
                      obtain ⟨X, hX⟩ : ∃ X, X = ratN (l.getD a 0) (sumL l) := ⟨_, rfl⟩
                      obtain ⟨Y, hY⟩ : ∃ X, X = ratD (l.getD a 0) (sumL l) := ⟨_, rfl⟩
                      obtain ⟨X', hX'⟩ : ∃ X, X = ratN (sumL l - l.getD a 0) (sumL l) := ⟨_, rfl⟩
                      obtain ⟨Y', hY'⟩ : ∃ X, X = ratD (sumL l - l.getD a 0) (sumL l) := ⟨_, rfl⟩
                      have HX := Lib.hid hX; have HY := Lib.hid hY
                      rw [← hX, ← hY] at E1 E3
                      rw [← hX', ← hY'] at E2 E3
                      have HOF1 := Lib.hid (fun W A' k' (h : Sl intCell 1 W W.heap.size A' l) => of1_any (a := a) W A' k' (by omega) h E1)
                      obtain ⟨O, hO⟩ : ∃ O, O = othersP a l.length := ⟨_, rfl⟩
                      rw [← hO] at E2 hOl hsO
                      have HE2 := Lib.hid E2
                      have HEI : Hid (∀ W, Calls Try.prog 44 #[.agg #[.int .i64 X, .int .i64 Y], .agg #[.int .i64 X', .int .i64 Y']] W (RetC (1, 1, 0) W)) := (fun W => by
                        have h := either_any ⟨X, Y⟩ ⟨X', Y'⟩ W; rw [E3] at h; exact h : ∀ W, _)
                      have HSO := Lib.hid hsO
                      rw [← hO]
                      clear hX hY hX' hY' E1 E2 E3 hO hsO hown HBq
                      go_wp2_with (first | (go_at_call 18; refine (own_any A c l _ (by omega) HZ.out HRj.out).mono ?_; rintro _ Wa ⟨Aa, ka, rfl, hsa, -, hba⟩) | (go_at_call 34; refine (HOF1.out _ _ _ hsa).mono ?_; rintro _ Wb ⟨rfl, hbb⟩; refine Hid.out ?_))
                      have hxb : Below wr.heap.size wr Wb := bl3 hba hbb
                      have gX := Blk.new Wb #[.int .i64 X, .int .i64 Y] 51
                      have hxb' := bla (o := .cells #[.int .i64 X, .int .i64 Y] 51) hxb
                      have HSOb := Lib.hid ((HSO.out.below hxb').more hxb'.size)
                      have hwb := bl2 hwj hxb'
                      have HRb := Lib.hid ((HR.out.below hwb).more hwb.size)
                      clear hsa hba hbb hxb HRj HSO hxb'
                      refine Lib.hid ?_
                      go_wp2_with (first | (go_at_call 18; refine (own_any A c l _ (by omega) HZ.out HRb.out).mono ?_; rintro _ Wc ⟨Ac, kc, rfl, hsc, -, hbc⟩) | (go_at_call 34; refine (of_any Ac AO kc kO l O Wc (by omega) (by omega) hsc ((HSOb.out.below hbc).more hbc.size)).mono ?_; rw [HE2.out]; rintro _ Wd ⟨rfl, hbd⟩; refine Hid.out ?_))
                      have hxd := bl2 hbc hbd
                      have gXd := gX.below hxd gX.lt
                      have hwd := bl2 hwb hxd
                      have lX := gXd.lt
                      have c0 := gXd.cell 0; have c1 := gXd.cell 1
                      simp at c0 c1
                      clear hsc hbc hbd hxd gX hwb HRb HSOb
                      refine Lib.hid ?_
                      go_wp2_with (go_at_call 44; refine (HEI.out _).mono ?_; rintro _ We ⟨rfl, hbe⟩; refine Hid.out ?_)
                      have gXe := (gXd.alloc _).below hbe (gXd.alloc _).lt
                      have hwe := bl3 hwd hbe
                      clear c0 c1 lX gXd hwd hbe HOF1 HEI
                      by_cases hab : a = b
                      · subst hab
                        have hT : twoP a a = [(a : Int)] := by unfold twoP; rw [if_pos rfl]
                        refine Lib.hid ?_
                        go_upto_region 41 with fail
                        refine gen_w (fun W => Below w.heap.size w W ∧ Blk W Wb.heap.size #[.int .i64 X, .int .i64 Y] 51 ∧ Sl intCell 1 W W.heap.size (some ⟨We.heap.size + 1 + 1, 0, none⟩) (twoP a a)) ⟨bla (bla (bla hwe)), ((gXe.alloc _).alloc _).alloc _, by rw [hT]; exact sl_one (Blk.at_ (by simp)) rfl rfl⟩ ?_
                        have hTl : (twoP a a).length = 1 := by rw [hT]; rfl
                        obtain ⟨B, hB⟩ : ∃ B, B = We.heap.size + 1 + 1 := ⟨_, rfl⟩
                        rw [← hB]
                        clear hT hB gXe hwe
                        rintro W6 ⟨hw6, gX6, hs6⟩
                        have HS6 := Lib.hid hs6
                        have HR6 := Lib.hid ((HR.out.below hw6).more hw6.size)
                        have hTm : (twoP a a).length ≤ 1000000000 := by omega
                        have HGV : Hid (∀ W A' k', Sl intCell 1 W W.heap.size A' l → Sl intCell 1 W W.heap.size (some ⟨B, 0, none⟩) (twoP a a) → Calls Try.prog 35 #[.slice A' l.length k', .slice (some ⟨B, 0, none⟩) 1 1] W (RetSlE (givenR l (twoP a a)).1 (givenR l (twoP a a)).2 W)) := (fun W A' k' h1 h2 => by
                          have h := given_any A' (some ⟨B, 0, none⟩) k' 1 l (twoP a a) W (by omega) hTm h1 h2
                          rw [hTl] at h; exact h : ∀ W A' k', _)
                        have HOT : Hid (∀ W A' k', Sl intCell 1 W W.heap.size A' l → Sl intCell 1 W W.heap.size (some ⟨B, 0, none⟩) (twoP a a) → Calls Try.prog 34 #[.slice A' l.length k', .slice (some ⟨B, 0, none⟩) 1 1] W (RetC (ofR l (twoP a a)) W)) := (fun W A' k' h1 h2 => by
                          have h := of_any A' (some ⟨B, 0, none⟩) k' 1 l (twoP a a) W (by omega) hTm h1 h2
                          rw [hTl] at h; exact h : ∀ W A' k', _)
                        clear hs6 hTm hTl
                        by_cases hs : selS l (twoP a a) = 0
                        · obtain ⟨e1, e2, e3⟩ := counts_none HOK.out hal hbl hs
                          rw [e1] at HGV
                          obtain ⟨lb, lo, hA, hlb, hca⟩ := (HR.out.below hw6).int_at hal
                          obtain ⟨lb', lo', hA', hlb', hcb⟩ := (HR.out.below hw6).int_at hbl
                          rw [hA] at hA'
                          simp only [Option.some.injEq, Addr.mk.injEq, and_true] at hA'
                          obtain ⟨rfl, rfl⟩ := hA'
                          subst hA
                          have va : l[a] = 0 := by have h := e2; rw [List.getD_eq_getElem?_getD, List.getElem?_eq_getElem hal] at h; exact h
                          have vb : l[a] = 0 := by have h := e3; rw [List.getD_eq_getElem?_getD, List.getElem?_eq_getElem hbl] at h; exact h
                          rw [va] at hca
                          rw [vb] at hcb
                          have i0 : (0 : Int) ≤ (a : Int) := by omega
                          have i1 : (a : Int) < (l.length : Int) := by omega
                          have i2 : (0 : Int) ≤ (a : Int) := by omega
                          have i3 : (a : Int) < (l.length : Int) := by omega
                          clear e1 e2 e3 va vb hs HOT
                          go_wp2_with (first | (go_at_call 18; refine (own_any _ c l W6 (by omega) HZ.out HR6.out).mono ?_; rintro _ W7 ⟨A7, k7, rfl, hs7, -, hb7⟩) | (go_at_call 35; refine (HGV.out _ _ _ hs7 ((HS6.out.below hb7).more hb7.size)).mono ?_; rintro _ W8 ⟨A8, k8, rfl, hs8, -, hb8⟩; have hx8 := bl2 hb7 hb8; have hz8 := hx8.size; rw [← hx8.cell (by show lb < W6.heap.size; have := hw6.size; omega)] at hca; rw [← hx8.cell (by show lb < W6.heap.size; have := hw6.size; omega)] at hcb; refine Hid.out ?_))
                          have hw8 := bl2 hw6 hx8
                          clear hs7 hb7 hs8 hb8 hx8 HGV
                          refine Lib.hid ?_
                          go_wp2_with (go_at_call 16; refine (known_any _).mono ?_; rintro _ W9 ⟨rfl, hb9⟩)
                          go_ret
                          exact ⟨rfl, bl2 hw8 hb9⟩
                        · obtain ⟨e1, okG, hGl, e2, e3, e4⟩ := counts_both HOK.out hal hbl hs
                          rw [← HX.out, ← HY.out] at e4
                          rw [e1] at HGV
                          rw [e2] at HOT
                          obtain ⟨G, hG⟩ : ∃ G, G = keepL l (twoP a a) := ⟨_, rfl⟩
                          rw [← hG] at HGV e3 hGl
                          obtain ⟨P1, hP1⟩ : ∃ G, G = ratN (selS l (twoP a a)) (sumL l) := ⟨_, rfl⟩
                          obtain ⟨P2, hP2⟩ : ∃ G, G = ratD (selS l (twoP a a)) (sumL l) := ⟨_, rfl⟩
                          obtain ⟨U1, hU1⟩ : ∃ G, G = ratN (l.getD a 0) (selS l (twoP a a)) := ⟨_, rfl⟩
                          obtain ⟨U2, hU2⟩ : ∃ G, G = ratD (l.getD a 0) (selS l (twoP a a)) := ⟨_, rfl⟩
                          rw [← hP1, ← hP2] at HOT e4
                          rw [← hU1, ← hU2] at e3 e4
                          have HOG := Lib.hid (fun W A' k' (h : Sl intCell 1 W W.heap.size A' G) => of1_any (a := a) W A' k' (by omega) h e3)
                          have HBO : Hid (∀ W, Calls Try.prog 42 #[.agg #[.int .i64 P1, .int .i64 P2], .agg #[.int .i64 U1, .int .i64 U2]] W (RetC (X, Y, 0) W)) := (fun W => by
                            have h := both_any ⟨P1, P2⟩ ⟨U1, U2⟩ W; rw [e4] at h; exact h : ∀ W, _)
                          have hGl6 : G.length ≤ 1000000 := by omega
                          clear e1 okG e2 e3 e4 hs hG hP1 hP2 hU1 hU2 hGl HX HY
                          go_wp2_with (first | (go_at_call 18; refine (own_any A c l W6 (by omega) HZ.out HR6.out).mono ?_; rintro _ W7 ⟨A7, k7, rfl, hs7, -, hb7⟩) | (go_at_call 35; refine (HGV.out _ _ _ hs7 ((HS6.out.below hb7).more hb7.size)).mono ?_; rintro _ W8 ⟨A8, k8, rfl, hs8, hz8, hb8⟩; refine Hid.out ?_))
                          have hx8 := bl2 hb7 hb8
                          have hw8 := bl2 hw6 hx8
                          have HS8 := Lib.hid ((HS6.out.below hx8).more hx8.size)
                          have HR8 := Lib.hid ((HR.out.below hw8).more hw8.size)
                          have HG8 := Lib.hid hs8; have HZ8 := Lib.hid hz8
                          have gX8 := gX6.below hx8 gX6.lt
                          clear hs7 hb7 hs8 hb8 hx8 HGV hz8 gX6 HS6 HR6 hw6
                          refine Lib.hid ?_
                          go_wp2_with (first | (go_at_call 18; refine (own_any A c l W8 (by omega) HZ.out HR8.out).mono ?_; rintro _ W9 ⟨A9, k9, rfl, hs9, -, hb9⟩) | (go_at_call 34; refine (HOT.out _ _ _ hs9 ((HS8.out.below hb9).more hb9.size)).mono ?_; rintro _ W10 ⟨rfl, hb10⟩; refine Hid.out ?_))
                          have hx10 := bl2 hb9 hb10
                          have hw10 := bl2 hw8 hx10
                          have gX10 := (gX8.below hx10 gX8.lt).alloc (.cells #[.int .i64 P1, .int .i64 P2] 51)
                          have gP10 := Blk.new W10 #[.int .i64 P1, .int .i64 P2] 51
                          have hx10' := bla (o := .cells #[.int .i64 P1, .int .i64 P2] 51) hx10
                          have hw10' := bla (o := .cells #[.int .i64 P1, .int .i64 P2] 51) hw10
                          have HG10 := Lib.hid ((HG8.out.below hx10').more hx10'.size)
                          clear hs9 hb9 hb10 hx10 hw10 gX8 HG8 hx10' HS8 HR8 HOT
                          refine Lib.hid ?_
                          go_wp2_with (first | (go_at_call 18; refine (own_any A8 k8 G _ hGl6 HZ8.out HG10.out).mono ?_; rintro _ W11 ⟨A11, k11, rfl, hs11, -, hb11⟩) | (go_at_call 34; refine (HOG.out _ _ _ hs11).mono ?_; rintro _ W12 ⟨rfl, hb12⟩; refine Hid.out ?_))
                          have hx12 := bl3 hb11 hb12
                          have hw12 := bl2 hw10' hx12
                          have gX12 := gX10.below hx12 gX10.lt
                          have gP12 := gP10.below hx12 gP10.lt
                          have c0 := gP12.cell 0; have c1 := gP12.cell 1; have lP := gP12.lt
                          simp at c0 c1
                          clear hs11 hb11 hb12 hx12 hw10' gX10 gP10 HG10 HOG
                          refine Lib.hid ?_
                          go_wp2_with (go_at_call 42; refine (HBO.out _).mono ?_; rintro _ W13 ⟨rfl, hb13⟩; refine Hid.out ?_)
                          have gX13 := (gX12.alloc _).below hb13 (gX12.alloc _).lt
                          have hw13 := bl3 hw12 hb13
                          have d0 := gX13.cell 0; have d1 := gX13.cell 1; have lX := gX13.lt
                          simp at d0 d1
                          clear c0 c1 lP hb13 gX12 gP12 hw12 HBO
                          refine Lib.hid ?_
                          go_wp2_with (go_at_call 16; refine (known_any _).mono ?_; rintro _ W14 ⟨rfl, hb14⟩)
                          go_ret
                          exact ⟨rfl, bl3 hw13 hb14⟩
                      · have d8 : ((a : Int) == (b : Int)) = false := by simp; omega
                        have hT : twoP a b = [min (a : Int) (b : Int), max (a : Int) (b : Int)] := by
                          unfold twoP; rw [if_neg hab]
                          congr 1
                          · omega
                          · congr 1; omega
                        refine Lib.hid ?_
                        go_upto_region 41 with fail
                        refine gen_w (fun W => Below w.heap.size w W ∧ Blk W Wb.heap.size #[.int .i64 X, .int .i64 Y] 51 ∧ Sl intCell 1 W W.heap.size (some ⟨We.heap.size + 1, 0, none⟩) (twoP a b)) ⟨bla (bla hwe), (gXe.alloc _).alloc _, by rw [hT]; exact sl_one (Blk.at_ (by simp)) rfl rfl⟩ ?_
                        have hTl : (twoP a b).length = 2 := by rw [hT]; rfl
                        obtain ⟨B, hB⟩ : ∃ B, B = We.heap.size + 1 := ⟨_, rfl⟩
                        rw [← hB]
                        clear hT hB gXe hwe d8
                        rintro W6 ⟨hw6, gX6, hs6⟩
                        have HS6 := Lib.hid hs6
                        have HR6 := Lib.hid ((HR.out.below hw6).more hw6.size)
                        have hTm : (twoP a b).length ≤ 1000000000 := by omega
                        have HGV : Hid (∀ W A' k', Sl intCell 1 W W.heap.size A' l → Sl intCell 1 W W.heap.size (some ⟨B, 0, none⟩) (twoP a b) → Calls Try.prog 35 #[.slice A' l.length k', .slice (some ⟨B, 0, none⟩) 2 2] W (RetSlE (givenR l (twoP a b)).1 (givenR l (twoP a b)).2 W)) := (fun W A' k' h1 h2 => by
                          have h := given_any A' (some ⟨B, 0, none⟩) k' 2 l (twoP a b) W (by omega) hTm h1 h2
                          rw [hTl] at h; exact h : ∀ W A' k', _)
                        have HOT : Hid (∀ W A' k', Sl intCell 1 W W.heap.size A' l → Sl intCell 1 W W.heap.size (some ⟨B, 0, none⟩) (twoP a b) → Calls Try.prog 34 #[.slice A' l.length k', .slice (some ⟨B, 0, none⟩) 2 2] W (RetC (ofR l (twoP a b)) W)) := (fun W A' k' h1 h2 => by
                          have h := of_any A' (some ⟨B, 0, none⟩) k' 2 l (twoP a b) W (by omega) hTm h1 h2
                          rw [hTl] at h; exact h : ∀ W A' k', _)
                        clear hs6 hTm hTl
                        by_cases hs : selS l (twoP a b) = 0
                        · obtain ⟨e1, e2, e3⟩ := counts_none HOK.out hal hbl hs
                          rw [e1] at HGV
                          obtain ⟨lb, lo, hA, hlb, hca⟩ := (HR.out.below hw6).int_at hal
                          obtain ⟨lb', lo', hA', hlb', hcb⟩ := (HR.out.below hw6).int_at hbl
                          rw [hA] at hA'
                          simp only [Option.some.injEq, Addr.mk.injEq, and_true] at hA'
                          obtain ⟨rfl, rfl⟩ := hA'
                          subst hA
                          have va : l[a] = 0 := by have h := e2; rw [List.getD_eq_getElem?_getD, List.getElem?_eq_getElem hal] at h; exact h
                          have vb : l[b] = 0 := by have h := e3; rw [List.getD_eq_getElem?_getD, List.getElem?_eq_getElem hbl] at h; exact h
                          rw [va] at hca
                          rw [vb] at hcb
                          have i0 : (0 : Int) ≤ (a : Int) := by omega
                          have i1 : (a : Int) < (l.length : Int) := by omega
                          have i2 : (0 : Int) ≤ (b : Int) := by omega
                          have i3 : (b : Int) < (l.length : Int) := by omega
                          clear e1 e2 e3 va vb hs HOT
                          go_wp2_with (first | (go_at_call 18; refine (own_any _ c l W6 (by omega) HZ.out HR6.out).mono ?_; rintro _ W7 ⟨A7, k7, rfl, hs7, -, hb7⟩) | (go_at_call 35; refine (HGV.out _ _ _ hs7 ((HS6.out.below hb7).more hb7.size)).mono ?_; rintro _ W8 ⟨A8, k8, rfl, hs8, -, hb8⟩; have hx8 := bl2 hb7 hb8; have hz8 := hx8.size; rw [← hx8.cell (by show lb < W6.heap.size; have := hw6.size; omega)] at hca; rw [← hx8.cell (by show lb < W6.heap.size; have := hw6.size; omega)] at hcb; refine Hid.out ?_))
                          have hw8 := bl2 hw6 hx8
                          clear hs7 hb7 hs8 hb8 hx8 HGV
                          refine Lib.hid ?_
                          go_wp2_with (go_at_call 16; refine (known_any _).mono ?_; rintro _ W9 ⟨rfl, hb9⟩)
                          go_ret
                          exact ⟨rfl, bl2 hw8 hb9⟩
                        · obtain ⟨e1, okG, hGl, e2, e3, e4⟩ := counts_both HOK.out hal hbl hs
                          rw [← HX.out, ← HY.out] at e4
                          rw [e1] at HGV
                          rw [e2] at HOT
                          obtain ⟨G, hG⟩ : ∃ G, G = keepL l (twoP a b) := ⟨_, rfl⟩
                          rw [← hG] at HGV e3 hGl
                          obtain ⟨P1, hP1⟩ : ∃ G, G = ratN (selS l (twoP a b)) (sumL l) := ⟨_, rfl⟩
                          obtain ⟨P2, hP2⟩ : ∃ G, G = ratD (selS l (twoP a b)) (sumL l) := ⟨_, rfl⟩
                          obtain ⟨U1, hU1⟩ : ∃ G, G = ratN (l.getD a 0) (selS l (twoP a b)) := ⟨_, rfl⟩
                          obtain ⟨U2, hU2⟩ : ∃ G, G = ratD (l.getD a 0) (selS l (twoP a b)) := ⟨_, rfl⟩
                          rw [← hP1, ← hP2] at HOT e4
                          rw [← hU1, ← hU2] at e3 e4
                          have HOG := Lib.hid (fun W A' k' (h : Sl intCell 1 W W.heap.size A' G) => of1_any (a := a) W A' k' (by omega) h e3)
                          have HBO : Hid (∀ W, Calls Try.prog 42 #[.agg #[.int .i64 P1, .int .i64 P2], .agg #[.int .i64 U1, .int .i64 U2]] W (RetC (X, Y, 0) W)) := (fun W => by
                            have h := both_any ⟨P1, P2⟩ ⟨U1, U2⟩ W; rw [e4] at h; exact h : ∀ W, _)
                          have hGl6 : G.length ≤ 1000000 := by omega
                          clear e1 okG e2 e3 e4 hs hG hP1 hP2 hU1 hU2 hGl HX HY
                          go_wp2_with (first | (go_at_call 18; refine (own_any A c l W6 (by omega) HZ.out HR6.out).mono ?_; rintro _ W7 ⟨A7, k7, rfl, hs7, -, hb7⟩) | (go_at_call 35; refine (HGV.out _ _ _ hs7 ((HS6.out.below hb7).more hb7.size)).mono ?_; rintro _ W8 ⟨A8, k8, rfl, hs8, hz8, hb8⟩; refine Hid.out ?_))
                          have hx8 := bl2 hb7 hb8
                          have hw8 := bl2 hw6 hx8
                          have HS8 := Lib.hid ((HS6.out.below hx8).more hx8.size)
                          have HR8 := Lib.hid ((HR.out.below hw8).more hw8.size)
                          have HG8 := Lib.hid hs8; have HZ8 := Lib.hid hz8
                          have gX8 := gX6.below hx8 gX6.lt
                          clear hs7 hb7 hs8 hb8 hx8 HGV hz8 gX6 HS6 HR6 hw6
                          refine Lib.hid ?_
                          go_wp2_with (first | (go_at_call 18; refine (own_any A c l W8 (by omega) HZ.out HR8.out).mono ?_; rintro _ W9 ⟨A9, k9, rfl, hs9, -, hb9⟩) | (go_at_call 34; refine (HOT.out _ _ _ hs9 ((HS8.out.below hb9).more hb9.size)).mono ?_; rintro _ W10 ⟨rfl, hb10⟩; refine Hid.out ?_))
                          have hx10 := bl2 hb9 hb10
                          have hw10 := bl2 hw8 hx10
                          have gX10 := (gX8.below hx10 gX8.lt).alloc (.cells #[.int .i64 P1, .int .i64 P2] 51)
                          have gP10 := Blk.new W10 #[.int .i64 P1, .int .i64 P2] 51
                          have hx10' := bla (o := .cells #[.int .i64 P1, .int .i64 P2] 51) hx10
                          have hw10' := bla (o := .cells #[.int .i64 P1, .int .i64 P2] 51) hw10
                          have HG10 := Lib.hid ((HG8.out.below hx10').more hx10'.size)
                          clear hs9 hb9 hb10 hx10 hw10 gX8 HG8 hx10' HS8 HR8 HOT
                          refine Lib.hid ?_
                          go_wp2_with (first | (go_at_call 18; refine (own_any A8 k8 G _ hGl6 HZ8.out HG10.out).mono ?_; rintro _ W11 ⟨A11, k11, rfl, hs11, -, hb11⟩) | (go_at_call 34; refine (HOG.out _ _ _ hs11).mono ?_; rintro _ W12 ⟨rfl, hb12⟩; refine Hid.out ?_))
                          have hx12 := bl3 hb11 hb12
                          have hw12 := bl2 hw10' hx12
                          have gX12 := gX10.below hx12 gX10.lt
                          have gP12 := gP10.below hx12 gP10.lt
                          have c0 := gP12.cell 0; have c1 := gP12.cell 1; have lP := gP12.lt
                          simp at c0 c1
                          clear hs11 hb11 hb12 hx12 hw10' gX10 gP10 HG10 HOG
                          refine Lib.hid ?_
                          go_wp2_with (go_at_call 42; refine (HBO.out _).mono ?_; rintro _ W13 ⟨rfl, hb13⟩; refine Hid.out ?_)
                          have gX13 := (gX12.alloc _).below hb13 (gX12.alloc _).lt
                          have hw13 := bl3 hw12 hb13
                          have d0 := gX13.cell 0; have d1 := gX13.cell 1; have lX := gX13.lt
                          simp at d0 d1
                          clear c0 c1 lP hb13 gX12 gP12 hw12 HBO
                          refine Lib.hid ?_
                          go_wp2_with (go_at_call 16; refine (known_any _).mono ?_; rintro _ W14 ⟨rfl, hb14⟩)
                          go_ret
                          exact ⟨rfl, bl3 hw13 hb14⟩
        · have HTO : Hid (totalR l = (0, 2)) := (by unfold totalR; rw [if_neg he, errW_two he (by omega)] : totalR l = _)
          clear he
          go_wp2_with (first | (go_at_call 18; refine (own_any A c l w0 (by omega) HZ.out HR0.out).mono ?_; rintro _ W1 ⟨A1, k1, rfl, hs1, -, hb1⟩) | (go_at_call 32; refine (total_any A1 k1 l W1 (by omega) hs1).mono ?_; rw [HTO.out]; rintro _ W2 ⟨rfl, hb2⟩) | (go_at_call 16; refine (known_any _).mono ?_; rintro _ W3 ⟨rfl, hb3⟩))
          go_ret
          exact ⟨rfl, bl2 (bl2 hw0 (bl2 hb1 hb2)) hb3⟩
end Go.Proofs.Ytmfbiohdmhbkoaa

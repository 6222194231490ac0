/- almanac: the reference's Date. -/
import Derived.Test.YtfbnllmmoaialaaZ25RfI
import Derived.Test.YtfbnllmmoaialaaZ22Hf
import Derived.Test.YtfbnllmmoaialaaB12Cls
import Derived.Laws.BitsAllLaws
namespace Go.Proofs.Ytfbnllmmoaialaa
open Go.RowKit

set_option maxRecDepth 100000 in
set_option maxHeartbeats 4000000 in
theorem rdate_any (e b u d : Int) (w : World) (ok : SolOk ⟨e, b, u⟩) (d0 : 0 ≤ d) (d1 : d ≤ 1000000) :
    Calls Try.prog 45 #[.agg #[.int .i64 e, .int .i64 b, .int .i64 u], .int .i64 d] w fun en w' => en = .returned (.agg #[.int .i64 (solI ⟨e, b, u⟩ d).y, .int .i64 (solI ⟨e, b, u⟩ d).m, .int .i64 (solI ⟨e, b, u⟩ d).d]) ∧ Below w.heap.size w w' := by
  have HOK := Lib.hid ok
  have n02 : w.heap.size ≠ w.heap.size + 1 + 1 := by omega
  have n12 : w.heap.size + 1 ≠ w.heap.size + 1 + 1 := by omega
  have HZ := Lib.hid (begI_zero ok)
  go_enter Try.func45, Try.ntmps45
  go_upto_region 1 with fail
  refine gen_w (fun W => W.heap.size = w.heap.size + 1 + 1 ∧ Blk W w.heap.size #[.int .i64 e, .int .i64 b, .int .i64 u] 24 ∧ Blk W (w.heap.size + 1) #[.int .i64 0, .int .i64 0, .int .i64 0] 75 ∧ Below w.heap.size w W) ⟨by simp, (Blk.at_ rfl).alloc _, Blk.at_ (by simp), by (repeat (first | exact Below.refl _ _ | assumption | (refine Below.alloc ?_ (by first | omega | (simp; omega) | (simp; done)) _) | (refine Below.setCell ?_ (by first | omega | (simp; omega) | (simp; done)) _) | (refine Below.drew ?_) | (refine belowN ?_ _) | (refine Below.trans ?_ (Below.mono ‹Below _ _ _› (by first | omega | (simp; omega) | (simp; done))))))⟩ ?_
  rintro W1 ⟨hsz, g0, g1, hw⟩
  go_wp2_with fail
  go_loopw [1] (fun v wr => ∃ (y : Nat) (D : Int), v = .int .i64 D ∧ Hid (D = d - begI ⟨e, b, u⟩ y) ∧ 0 ≤ D ∧ y ≤ 2740 ∧ Hid (Below w.heap.size w wr) ∧ Blk wr w.heap.size #[.int .i64 e, .int .i64 b, .int .i64 u] 24 ∧ Blk wr (w.heap.size + 1) #[.int .i64 0, .int .i64 0, .int .i64 0] 75 ∧ Blk wr (w.heap.size + 1 + 1) #[.int .i64 y, .int .i64 1, .int .i64 0] 75)  (fun v _ => (intOf v).toNat)
  case atStart =>
    refine ⟨0, d, rfl, (by have := HZ.out; simp only [Int.natCast_zero]; omega : d = _), d0, by omega, ?_⟩
    exact ⟨hw.alloc hw.size _, g0.alloc _, g1.alloc _, Blk.at_ hsz.symm⟩
  case round =>
    obtain ⟨y, D, rfl, HD, hD0, hy, hbw, g0, g1, g2⟩ := hrel
    have hw := hbw.out
    have c0 := g0.cell 0; have c1 := g0.cell 1; have c2 := g0.cell 2; have s0 := g2.cell 0; have s1 := g2.cell 1; have s2 := g2.cell 2
    simp at c0 c1 c2 s0 s1 s2
    have f0 := g2.free 0; have f1 := g2.free 1; have f2 := g2.free 2
    have HY := Lib.hid (fun W => ryear_any e b u y W HOK.out (by omega) (by omega))
    have hNb := yearN_bd ⟨e, b, u⟩ y
    have HST := Lib.hid (begI_step HOK.out (y := (y : Int)) (by omega))
    have HBD := Lib.hid (begI_bd HOK.out y)
    obtain ⟨N, hN⟩ : ∃ N, N = yearN ⟨e, b, u⟩ y := ⟨_, rfl⟩
    rw [← hN] at HY hNb HST
    have HN := Lib.hid hN
    clear hN hbw
    by_cases hc : N ≤ D
    · have t1 : decide (N ≤ D) = true := by simpa using hc
      have hD1 : D ≤ 1000000 := by have := HD.out; have := HBD.out; omega
      have v1 : IntKind.i64.wrap (D - N) = D - N := IntWalk.i64_in _ ⟨by omega, by omega⟩
      have v2 : IntKind.i64.wrap ((y : Int) + 1) = (y : Int) + 1 := IntWalk.i64_in _ ⟨by omega, by omega⟩
      go_wp2_with (go_at_call 83; (with_reducible refine (HY.out _).mono ?_); rintro _ V1 ⟨rfl, hb1⟩; have hw := bl2 hw hb1; have g0 := g0.below hb1 g0.lt; have g1 := g1.below hb1 g1.lt; have g2 := g2.below hb1 g2.lt; have c0 := g0.cell 0; have c1 := g0.cell 1; have c2 := g0.cell 2; have s0 := g2.cell 0; have s1 := g2.cell 1; have s2 := g2.cell 2; simp at c0 c1 c2 s0 s1 s2; have f0 := g2.free 0; have f1 := g2.free 1; have f2 := g2.free 2)
      go_roundw
      case rel =>
        refine ⟨y + 1, D - N, rfl, (by have := HD.out; have := HST.out; rw [show ((y + 1 : Nat) : Int) = (y : Int) + 1 by omega]; omega : D - N = _), by omega, by have := HD.out; have := HBD.out; omega, ?_⟩
        refine ⟨hw.setCell (p := ⟨w.heap.size + 1 + 1, 0, none⟩) (by show w.heap.size ≤ w.heap.size + 1 + 1; omega) _, g0.far ⟨w.heap.size + 1 + 1, 0, none⟩ n02 _, g1.far ⟨w.heap.size + 1 + 1, 0, none⟩ n12 _, ?_⟩
        have h3 := g2.set 0 (.int .i64 ((y : Int) + 1))
        simpa using h3
      case measure => simp [intOf]; omega
    · have t1 : decide (N ≤ D) = false := by simpa using hc
      have HYI : Hid (yearI ⟨e, b, u⟩ d = y) := (by
        have h1 := HD.out; have h2 := HST.out
        exact yearI_is HOK.out (by omega) (by omega) hy : _ = y)
      go_upto_region 5 with (go_at_call 83; (with_reducible refine (HY.out _).mono ?_); rintro _ V1 ⟨rfl, hb1⟩; have hw := bl2 hw hb1; have g0 := g0.below hb1 g0.lt; have g1 := g1.below hb1 g1.lt; have g2 := g2.below hb1 g2.lt; have c0 := g0.cell 0; have c1 := g0.cell 1; have c2 := g0.cell 2; have s0 := g2.cell 0; have s1 := g2.cell 1; have s2 := g2.cell 2; simp at c0 c1 c2 s0 s1 s2; have f0 := g2.free 0; have f1 := g2.free 1; have f2 := g2.free 2)
      obtain ⟨X, hX⟩ : ∃ X, X = extraN ⟨e, b, u⟩ y := ⟨_, rfl⟩
      have HX := Lib.hid hX
      have HSM : Hid (D < (monL X).sum) := (by
        rw [monL_sum, hX]; have h1 := HST.out; unfold extraN; omega : D < _)
      clear hX t1 hc HST
      go_loopw [1] (fun v wr => ∃ (k : Nat) (D2 : Int), v = .int .i64 D2 ∧ Hid (D2 = D - ((monL X).take k).sum) ∧ 0 ≤ D2 ∧ k ≤ 11 ∧ Hid (Below w.heap.size w wr) ∧ Blk wr w.heap.size #[.int .i64 e, .int .i64 b, .int .i64 u] 24 ∧ Blk wr (w.heap.size + 1) #[.int .i64 0, .int .i64 0, .int .i64 0] 75 ∧ Blk wr (w.heap.size + 1 + 1) #[.int .i64 y, .int .i64 ((k : Int) + 1), .int .i64 0] 75)  (fun v _ => (intOf v).toNat)
      case atStart => exact ⟨0, D, rfl, (by simp : D = _), hD0, by omega, hw, g0, g1, g2⟩
      case round =>
        obtain ⟨k, D2, rfl, HD2, hD20, hk, hbw, g0, g1, g2⟩ := hrel
        have hw := hbw.out
        have c0 := g0.cell 0; have c1 := g0.cell 1; have c2 := g0.cell 2; have s0 := g2.cell 0; have s1 := g2.cell 1; have s2 := g2.cell 2
        simp at c0 c1 c2 s0 s1 s2
        have f0 := g2.free 0; have f1 := g2.free 1; have f2 := g2.free 2
        have hk12 : k < (monL X).length := by show k < 12; omega
        have HM := Lib.hid (fun W => rmonth_any e b u y ((k : Int) + 1) W HOK.out (by omega) (by omega))
        have HMN : Hid ((monL X)[k] = monthN ⟨e, b, u⟩ y ((k : Int) + 1)) := (by
          have h1 := HX.out
          subst h1
          exact monthN_at HOK.out (by omega) hk12 : (monL X)[k] = _)
        have hMb := monthN_bd ⟨e, b, u⟩ y ((k : Int) + 1)
        obtain ⟨MN, hMN⟩ : ∃ M, M = monthN ⟨e, b, u⟩ y ((k : Int) + 1) := ⟨_, rfl⟩
        rw [← hMN] at HM hMb HMN
        have hD21 : D2 ≤ 1000000 := by
          have h1 := HD2.out; have h2 := HD.out
          have h3 : 0 ≤ ((monL X).take k).sum := take_nn (monL_nn (by rw [HX.out]; exact (extra_bd2 HOK.out (by omega)).1)) k
          have h4 := HBD.out
          omega
        clear hMN hbw
        by_cases hc2 : MN ≤ D2
        · have t2 : decide (MN ≤ D2) = true := by simpa using hc2
          have v1 : IntKind.i64.wrap (D2 - MN) = D2 - MN := IntWalk.i64_in _ ⟨by omega, by omega⟩
          have v2 : IntKind.i64.wrap ((k : Int) + 1 + 1) = (k : Int) + 1 + 1 := IntWalk.i64_in _ ⟨by omega, by omega⟩
          have HS2 : Hid (((monL X).take (k + 1)).sum = ((monL X).take k).sum + MN) := (by
            rw [List.take_succ_eq_append_getElem hk12, List.sum_append, HMN.out]; simp : _ = _)
          have hk11 : k + 1 ≤ 11 := by
            by_cases h : k + 1 ≤ 11
            · exact h
            · have h12 : k + 1 = 12 := by omega
              have h1 := HS2.out; have h2 := HSM.out; have h3 := HD2.out
              rw [h12, show (monL X).take 12 = monL X from List.take_of_length_le (Nat.le_refl _)] at h1
              omega
          go_wp2_with (go_at_call 82; (with_reducible refine (HM.out _).mono ?_); rintro _ V1 ⟨rfl, hb1⟩; have hw := bl2 hw hb1; have g0 := g0.below hb1 g0.lt; have g1 := g1.below hb1 g1.lt; have g2 := g2.below hb1 g2.lt; have c0 := g0.cell 0; have c1 := g0.cell 1; have c2 := g0.cell 2; have s0 := g2.cell 0; have s1 := g2.cell 1; have s2 := g2.cell 2; simp at c0 c1 c2 s0 s1 s2; have f0 := g2.free 0; have f1 := g2.free 1; have f2 := g2.free 2)
          go_roundw
          case rel =>
            refine ⟨k + 1, D2 - MN, rfl, (by have := HD2.out; have := HS2.out; omega : D2 - MN = _), by omega, hk11, ?_⟩
            refine ⟨hw.setCell (p := ⟨w.heap.size + 1 + 1, 1, none⟩) (by show w.heap.size ≤ w.heap.size + 1 + 1; omega) _, g0.far ⟨w.heap.size + 1 + 1, 1, none⟩ n02 _, g1.far ⟨w.heap.size + 1 + 1, 1, none⟩ n12 _, ?_⟩
            have h3 := g2.set 1 (.int .i64 ((k : Int) + 1 + 1))
            rw [show ((k + 1 : Nat) : Int) = (k : Int) + 1 by omega]
            simpa using h3
          case measure => simp [intOf]; omega
        · have t2 : decide (MN ≤ D2) = false := by simpa using hc2
          have v1 : IntKind.i64.wrap (D2 + 1) = D2 + 1 := IntWalk.i64_in _ ⟨by omega, by omega⟩
          have HR : Hid (solI ⟨e, b, u⟩ d = ⟨(y : Int), (k : Int) + 1, D2 + 1⟩) := (by
            have h1 := HX.out
            subst h1
            exact solI_is HOK.out hy hk12 (by omega) (by rw [HMN.out]; omega) (by have := HD2.out; have := HD.out; omega) : _ = _)
          go_upto_region 8 with (go_at_call 82; (with_reducible refine (HM.out _).mono ?_); rintro _ V1 ⟨rfl, hb1⟩; have hw := bl2 hw hb1; have g0 := g0.below hb1 g0.lt; have g1 := g1.below hb1 g1.lt; have g2 := g2.below hb1 g2.lt; have c0 := g0.cell 0; have c1 := g0.cell 1; have c2 := g0.cell 2; have s0 := g2.cell 0; have s1 := g2.cell 1; have s2 := g2.cell 2; simp at c0 c1 c2 s0 s1 s2; have f0 := g2.free 0; have f1 := g2.free 1; have f2 := g2.free 2)
          have h0 := g1.free 0; have h1 := g1.free 1; have h2 := g1.free 2
          have k0 := g1.cell 0; have k1 := g1.cell 1; have k2 := g1.cell 2
          simp at k0 k1 k2
          go_wp2_with fail
          have hle3 : w.heap.size ≤ w.heap.size + 1 + 1 := by omega
          have hle2 : w.heap.size ≤ w.heap.size + 1 := by omega
          have g3 := blk3 (g1.far ⟨w.heap.size + 1 + 1, 2, none⟩ n12 (.int .i64 (D2 + 1))) (.int .i64 y) (.int .i64 ((k : Int) + 1)) (.int .i64 (D2 + 1))
          have hw3 := (((hw.setCell (p := ⟨w.heap.size + 1 + 1, 2, none⟩) hle3 (.int .i64 (D2 + 1))).setCell (p := ⟨w.heap.size + 1, 0, none⟩) hle2 (.int .i64 y)).setCell (p := ⟨w.heap.size + 1, 1, none⟩) hle2 (.int .i64 ((k : Int) + 1))).setCell (p := ⟨w.heap.size + 1, 2, none⟩) hle2 (.int .i64 (D2 + 1))
          generalize (((V1.setCell ⟨w.heap.size + 1 + 1, 2, none⟩ (.int .i64 (D2 + 1))).setCell ⟨w.heap.size + 1, 0, none⟩ (.int .i64 y)).setCell ⟨w.heap.size + 1, 1, none⟩ (.int .i64 ((k : Int) + 1))).setCell ⟨w.heap.size + 1, 2, none⟩ (.int .i64 (D2 + 1)) = W3 at g3 hw3 ⊢
          have q0 := g3.cell 0; have q1 := g3.cell 1; have q2 := g3.cell 2
          simp at q0 q1 q2
          refine bodyPost_ret (v := .agg #[.int .i64 y, .int .i64 ((k : Int) + 1), .int .i64 (D2 + 1)]) (by simp [results, Try.results45, go_sem, q0, q1, q2]) rfl ?_
          rw [HR.out]
          exact ⟨rfl, hw3⟩
end Go.Proofs.Ytfbnllmmoaialaa
namespace Go.Proofs.Ytfbnllmmoaialaa
open Go.RowKit

/-- a set has only numbers from lo to hi -/
def setB (st lo hi : Int) : Bool := (List.range 64).all fun n : Nat => !(bitB st n) || inB n lo hi
theorem and_zero_iff {a b : Nat} : a &&& b = 0 ↔ ∀ n, a.testBit n = true → b.testBit n = false := by
  constructor
  · intro h n hn
    have h1 : (a &&& b).testBit n = false := by rw [h]; exact Nat.zero_testBit n
    rw [Nat.testBit_and, hn, Bool.true_and] at h1
    exact h1
  · intro h
    refine Nat.eq_of_testBit_eq fun n => ?_
    rw [Nat.testBit_and, Nat.zero_testBit]
    cases ha : a.testBit n with
    | false => rfl
    | true => rw [h n ha]; rfl
theorem subB_set {st lo hi : Int} {m : Nat} (hs : 0 ≤ st ∧ st < 18446744073709551616) (hm : m < 18446744073709551616) (hb : ∀ n, n < 64 → m.testBit n = inB n lo hi) : subB st m = setB st lo hi := by
  obtain ⟨S, rfl⟩ := Int.eq_ofNat_of_zero_le hs.1
  have hS : S < 2 ^ 64 := by omega
  have h1 : subB (S : Int) m = decide (S &&& (18446744073709551615 - m) = 0) := by
    unfold subB
    rw [u64_andNot_nat S m (by omega) hm]
    exact decide_eq_decide.2 (by omega)
  rw [h1]
  have hmm : ∀ n, n < 64 → (18446744073709551615 - m).testBit n = !(inB n lo hi) := fun n hn => by
    have h2 := Nat.testBit_two_pow_sub_succ (x := m) (n := 64) (by omega) n
    rw [show (2 : Nat) ^ 64 - (m + 1) = 18446744073709551615 - m by omega] at h2
    rw [h2, hb n hn]
    simp [hn]
  unfold setB bitB
  rw [Int.toNat_natCast]
  cases h3 : ((List.range 64).all fun n : Nat => !(S.testBit n) || inB (n : Int) lo hi) with
  | true =>
    refine decide_eq_true (and_zero_iff.2 fun n hn => ?_)
    have hn64 : n < 64 := by
      rcases Nat.lt_or_ge n 64 with h | h
      · exact h
      · rw [Nat.testBit_lt_two_pow (Nat.lt_of_lt_of_le hS (Nat.pow_le_pow_right (by omega) h))] at hn; cases hn
    have h4 := List.all_eq_true.1 h3 n (List.mem_range.2 hn64)
    rw [hn] at h4
    rw [hmm n hn64]
    simpa using h4
  | false =>
    refine decide_eq_false fun h => ?_
    rw [List.all_eq_false] at h3
    obtain ⟨n, hn, h4⟩ := h3
    have hn64 := List.mem_range.1 hn
    simp only [Bool.not_eq_true, Bool.or_eq_false_iff, Bool.not_eq_false'] at h4
    have h5 := and_zero_iff.1 h n h4.1
    rw [hmm n hn64, h4.2] at h5
    cases h5
theorem sub12 {st : Int} (hs : 0 ≤ st ∧ st < 18446744073709551616) : subB st 8190 = setB st 1 12 := subB_set (m := 8190) hs (by decide) (by decide +kernel)
theorem sub31 {st : Int} (hs : 0 ≤ st ∧ st < 18446744073709551616) : subB st 4294967294 = setB st 1 31 := subB_set (m := 4294967294) hs (by decide) (by decide +kernel)
theorem sub0 {st : Int} (hs : 0 ≤ st ∧ st < 18446744073709551616) : subB st 0 = (st == 0) := by
  obtain ⟨S, rfl⟩ := Int.eq_ofNat_of_zero_le hs.1
  unfold subB
  rw [show (0 : Int) = ((0 : Nat) : Int) from rfl, u64_andNot_nat S 0 (by omega) (by decide)]
  have h1 : S &&& (18446744073709551615 - 0) = S := by
    refine Nat.eq_of_testBit_eq fun n => ?_
    rw [Nat.testBit_and, show (18446744073709551615 : Nat) - 0 = 2 ^ 64 - 1 by decide, Nat.testBit_two_pow_sub_one]
    rcases Nat.lt_or_ge n 64 with h | h
    · simp [h]
    · rw [Nat.testBit_lt_two_pow (Nat.lt_of_lt_of_le (show S < 2 ^ 64 by omega) (Nat.pow_le_pow_right (by omega) h))]; rfl
  rw [h1]
theorem subL {st l : Int} (hs : 0 ≤ st ∧ st < 18446744073709551616) (l1 : 1 ≤ l) (l2 : l ≤ 64) : subB st (18446744073709551615 / 2 ^ (64 - l).toNat) = setB st 0 (l - 1) := by
  obtain ⟨L, rfl⟩ := Int.eq_ofNat_of_zero_le (show 0 ≤ l by omega)
  have e1 : ((18446744073709551615 : Int) / 2 ^ (64 - (L : Int)).toNat) = ((18446744073709551615 / 2 ^ (64 - L) : Nat) : Int) := by
    rw [show (64 - (L : Int)).toNat = 64 - L by omega]
    simp
  rw [e1]
  refine subB_set hs (Nat.lt_of_le_of_lt (Nat.div_le_self _ _) (by decide)) fun n hn => ?_
  rw [Nat.testBit_div_two_pow, show (18446744073709551615 : Nat) = 2 ^ 64 - 1 by decide, Nat.testBit_two_pow_sub_one]
  exact decide_eq_decide.2 (by omega)
theorem setB_bit {S n : Nat} : bitB (S : Int) n = (((S / 2 ^ n % 2 : Nat) : Int) == 1) := by
  unfold bitB
  rw [Int.toNat_natCast, Nat.testBit_eq_decide_div_mod_eq]
  by_cases h : S / 2 ^ n % 2 = 1
  · rw [h]; rfl
  · have h0 : S / 2 ^ n % 2 = 0 := by omega
    rw [h0]; rfl
set_option maxRecDepth 100000 in
set_option maxHeartbeats 4000000 in
theorem rset_any (st lo hi : Int) (w : World) (hs : 0 ≤ st ∧ st < 18446744073709551616) : Calls Try.prog 117 #[.int .u64 st, .int .i64 lo, .int .i64 hi] w fun e w' => e = .returned (.bool (setB st lo hi)) ∧ Below w.heap.size w w' := by
  obtain ⟨S, rfl⟩ := Int.eq_ofNat_of_zero_le hs.1
  have hS : S < 18446744073709551616 := by omega
  clear hs
  go_enter Try.func117, Try.ntmps117
  go_upto_region 2 with fail
  go_loopw [7] (fun i wr => ∃ k : Nat, k ≤ 64 ∧ i = .int .i64 k ∧ Hid (∀ n, n < k → bitB (S : Int) n = true → inB n lo hi = true) ∧ Below w.heap.size w wr) (fun i _ => 64 - (intOf i).toNat)
  case atStart => exact ⟨0, by omega, rfl, (fun n hn => absurd hn (by omega) : ∀ n, n < 0 → bitB (S : Int) n = true → inB n lo hi = true), Below.refl _ _⟩
  case round =>
    obtain ⟨k, hk, rfl, HA, hb⟩ := hrel
    by_cases hlt : k < 64
    · have t1 : decide ((k : Int) < 64) = true := by simp; omega
      have q1 := u64bit S k hS
      have HBT := Lib.hid (setB_bit (S := S) (n := k))
      have hd : S / 2 ^ k % 2 = 0 ∨ S / 2 ^ k % 2 = 1 := by omega
      obtain ⟨z, hz⟩ : ∃ z, z = S / 2 ^ k % 2 := ⟨_, rfl⟩
      rw [← hz] at q1 HBT hd
      clear hz
      rcases hd with rfl | rfl
      · have HA2 : Hid (∀ n, n < k + 1 → bitB (S : Int) n = true → inB n lo hi = true) := (fun n hn hbn => by
          by_cases h : n < k
          · exact HA.out n h hbn
          · obtain rfl : n = k := by omega
            rw [HBT.out] at hbn
            exact absurd hbn (by decide) : ∀ n, n < k + 1 → bitB (S : Int) n = true → inB n lo hi = true)
        go_wp2_with fail
        go_roundw
        case rel => exact ⟨k + 1, by omega, by go_num, HA2, hb⟩
        case measure => simp [intOf]; omega
      · cases hin : inB k lo hi with
        | false =>
          have HV := Lib.hid (fun W => rin_val hin W)
          have HT : Hid (setB (S : Int) lo hi = false) := (by
            unfold setB
            rw [List.all_eq_false]
            exact ⟨k, List.mem_range.2 hlt, by rw [HBT.out, hin]; decide⟩ : setB (S : Int) lo hi = false)
          clear hin
          go_wp2_with (go_at_call 65; (with_reducible refine (HV.out _).mono ?_); rintro _ _ ⟨rfl, rfl⟩)
          go_ret
          exact ⟨ret_bool HT.out.symm, hb⟩
        | true =>
          have HV := Lib.hid (fun W => rin_val hin W)
          have HA2 : Hid (∀ n, n < k + 1 → bitB (S : Int) n = true → inB n lo hi = true) := (fun n hn hbn => by
            by_cases h : n < k
            · exact HA.out n h hbn
            · obtain rfl : n = k := by omega
              exact hin : ∀ n, n < k + 1 → bitB (S : Int) n = true → inB n lo hi = true)
          clear hin
          go_wp2_with (go_at_call 65; (with_reducible refine (HV.out _).mono ?_); rintro _ _ ⟨rfl, rfl⟩)
          go_roundw
          case rel => exact ⟨k + 1, by omega, by go_num, HA2, hb⟩
          case measure => simp [intOf]; omega
    · obtain rfl : k = 64 := by omega
      have HT : Hid (setB (S : Int) lo hi = true) := (by
        unfold setB
        rw [List.all_eq_true]
        intro n hn
        have h1 := HA.out n (List.mem_range.1 hn)
        cases h2 : bitB (S : Int) n with
        | false => rfl
        | true => rw [h1 h2]; rfl : setB (S : Int) lo hi = true)
      go_wp2_with fail
      go_ret
      exact ⟨ret_bool HT.out.symm, hb⟩
theorem rset_val {st lo hi : Int} {v : Bool} (h : setB st lo hi = v) (hs : 0 ≤ st ∧ st < 18446744073709551616) (w : World) : Calls Try.prog 117 #[.int .u64 st, .int .i64 lo, .int .i64 hi] w fun e w' => e = .returned (.bool v) ∧ Below w.heap.size w w' := h ▸ rset_any st lo hi w hs
theorem rspan_any (a b : Int) (w : World) : Calls Try.prog 22 #[.int .i64 a, .int .i64 b] w fun e w' => e = .returned (.bool (spanB a b)) ∧ Below w.heap.size w w' := by
  cases h1 : inB a 0 1000000 with
  | false =>
    have HA := Lib.hid (fun W => rday_val h1 W)
    have HT : Hid (spanB a b = false) := (by simp [spanB, h1] : spanB a b = false)
    clear h1
    go_enter Try.func22, Try.ntmps22
    go_wp2_with (go_at_call 28; (with_reducible refine (HA.out _).mono ?_); rintro _ _ ⟨rfl, rfl⟩)
    go_ret
    exact ⟨ret_bool HT.out.symm, by (repeat (first | exact Below.refl _ _ | assumption | (refine Below.alloc ?_ (by first | omega | (simp; omega) | (simp; done)) _) | (refine Below.setCell ?_ (by first | omega | (simp; omega) | (simp; done)) _) | (refine Below.drew ?_) | (refine belowN ?_ _) | (refine Below.trans ?_ (Below.mono ‹Below _ _ _› (by first | omega | (simp; omega) | (simp; done))))))⟩
  | true =>
    have a1 := inB_iff.1 h1
    cases h2 : inB b 0 1000000 with
    | false =>
      have HA := Lib.hid (fun W => rday_val h1 W)
      have HB := Lib.hid (fun W => rday_val h2 W)
      have HT : Hid (spanB a b = false) := (by simp [spanB, h2] : spanB a b = false)
      clear h1 h2
      go_enter Try.func22, Try.ntmps22
      go_wp2_with (first | (go_at_call 28; (with_reducible refine (HB.out _).mono ?_); rintro _ _ ⟨rfl, rfl⟩) | (go_at_call 28; (with_reducible refine (HA.out _).mono ?_); rintro _ _ ⟨rfl, rfl⟩))
      go_ret
      exact ⟨ret_bool HT.out.symm, by (repeat (first | exact Below.refl _ _ | assumption | (refine Below.alloc ?_ (by first | omega | (simp; omega) | (simp; done)) _) | (refine Below.setCell ?_ (by first | omega | (simp; omega) | (simp; done)) _) | (refine Below.drew ?_) | (refine belowN ?_ _) | (refine Below.trans ?_ (Below.mono ‹Below _ _ _› (by first | omega | (simp; omega) | (simp; done))))))⟩
    | true =>
      have a2 := inB_iff.1 h2
      have HA := Lib.hid (fun W => rday_val h1 W)
      have HB := Lib.hid (fun W => rday_val h2 W)
      have HT : Hid (spanB a b = inB (b - a) 0 4000) := (by simp [spanB, h1, h2] : spanB a b = inB (b - a) 0 4000)
      have w1 : IntKind.i64.wrap (b - a) = b - a := IntWalk.i64_in _ ⟨by omega, by omega⟩
      clear h1 h2
      go_enter Try.func22, Try.ntmps22
      go_wp2_with (first | (go_at_call 28; (with_reducible refine (HB.out _).mono ?_); rintro _ _ ⟨rfl, rfl⟩) | (go_at_call 28; (with_reducible refine (HA.out _).mono ?_); rintro _ _ ⟨rfl, rfl⟩) | (go_at_call 65; refine (rin_any _ _ _ _).mono ?_; rintro _ _ ⟨rfl, rfl⟩))
      go_ret
      exact ⟨ret_bool HT.out.symm, by (repeat (first | exact Below.refl _ _ | assumption | (refine Below.alloc ?_ (by first | omega | (simp; omega) | (simp; done)) _) | (refine Below.setCell ?_ (by first | omega | (simp; omega) | (simp; done)) _) | (refine Below.drew ?_) | (refine belowN ?_ _) | (refine Below.trans ?_ (Below.mono ‹Below _ _ _› (by first | omega | (simp; omega) | (simp; done))))))⟩
set_option maxRecDepth 100000 in
set_option maxHeartbeats 4000000 in
theorem ralmanac_any (A : Option Addr) (c : Nat) (l : List Cyc) (e b u d p f m y s k : Int) (w : World) (hl : l.length ≤ 9223372036854775807) (hr : Sl Cyc.cells 2 w w.heap.size A l) :
    Calls Try.prog 38 #[.agg #[.slice A l.length c, .int .i64 e, .int .i64 b, .int .i64 u, .int .i64 d, .int .i64 p, .int .i64 f, .int .i64 m, .int .i64 y, .int .i64 s, .int .i64 k]] w fun en w' => en = .returned (.bool (almB ⟨A, c, l, ⟨e, b, u⟩, ⟨d, p, f, m, y, s, k⟩⟩)) ∧ Below w.heap.size w w' := by
  have HR := Lib.hid hr
  clear hr
  go_enter Try.func38, Try.ntmps38
  go_upto_region 2 with fail
  refine gen_w (fun W => Blk W w.heap.size #[.slice A l.length c, .int .i64 e, .int .i64 b, .int .i64 u, .int .i64 d, .int .i64 p, .int .i64 f, .int .i64 m, .int .i64 y, .int .i64 s, .int .i64 k] 28 ∧ Below w.heap.size w W) ⟨Blk.at_ rfl, by (repeat (first | exact Below.refl _ _ | assumption | (refine Below.alloc ?_ (by first | omega | (simp; omega) | (simp; done)) _) | (refine Below.setCell ?_ (by first | omega | (simp; omega) | (simp; done)) _) | (refine Below.drew ?_) | (refine belowN ?_ _) | (refine Below.trans ?_ (Below.mono ‹Below _ _ _› (by first | omega | (simp; omega) | (simp; done))))))⟩ ?_
  rintro V0 ⟨ga, hw⟩
  go_loopw [3] (fun i wr => ∃ q : Nat, q ≤ l.length ∧ i = .int .i64 q ∧ Hid (∀ c ∈ l.take q, cycB c = true) ∧ Hid (Below w.heap.size w wr) ∧ Blk wr w.heap.size #[.slice A l.length c, .int .i64 e, .int .i64 b, .int .i64 u, .int .i64 d, .int .i64 p, .int .i64 f, .int .i64 m, .int .i64 y, .int .i64 s, .int .i64 k] 28) (fun i _ => l.length - (intOf i).toNat)
  case atStart => exact ⟨0, by omega, rfl, (fun _ h => (by cases h) : ∀ c ∈ l.take 0, cycB c = true), hw, ga⟩
  case round =>
    clear hw ga
    obtain ⟨q, hq, rfl, HCY, hbw, ga⟩ := hrel
    have hw := hbw.out
    clear hbw
    (have z0 := ga.cell 0; have z1 := ga.cell 1; have z2 := ga.cell 2; have z3 := ga.cell 3; have z4 := ga.cell 4; have z5 := ga.cell 5; have z6 := ga.cell 6; have z7 := ga.cell 7; have z8 := ga.cell 8; have z9 := ga.cell 9; have z10 := ga.cell 10; simp at z0 z1 z2 z3 z4 z5 z6 z7 z8 z9 z10)
    by_cases hlt : q < l.length
    · obtain ⟨ab, ao, rfl, hblk, hcell⟩ := (HR.out.below hw).at_ (k := q) (fun _ => rfl) hlt
      have HZ : Hid (l.take (q + 1) = l.take q ++ [l[q]]) := (List.take_succ_eq_append_getElem hlt : _ = _)
      have HMEM := Lib.hid (List.getElem_mem hlt)
      obtain ⟨x, hx⟩ : ∃ x, x = l[q] := ⟨_, rfl⟩
      rw [← hx] at hcell HZ HMEM
      obtain ⟨ql, qs⟩ := x
      have e0 : wr.cell? ⟨ab, ao + q * 2, none⟩ = some (.int .i64 ql) := hcell 0 _ rfl
      have e1 : wr.cell? ⟨ab, ao + q * 2 + 1, none⟩ = some (.int .i64 qs) := hcell 1 _ rfl
      have k0 : (0 : Int) ≤ (q : Int) := by omega
      have k1 : (q : Int) < (l.length : Int) := by omega
      clear hcell hx
      cases hcy : cycB ⟨ql, qs⟩ with
      | false =>
        have HC := Lib.hid (fun W => rcycle_val hcy W)
        have HT : Hid (almB ⟨some ⟨ab, ao, none⟩, c, l, ⟨e, b, u⟩, ⟨d, p, f, m, y, s, k⟩⟩ = false) := (by
          have h1 : l.all cycB = false := Bool.eq_false_iff.2 fun h => by
            have h9 := (List.all_eq_true (p := cycB)).1 h _ HMEM.out
            exact absurd (h9.symm.trans hcy) (by decide)
          simp [almB, h1] : almB _ = false)
        clear hcy
        go_wp2_with (go_at_call 27; (with_reducible refine (HC.out _).mono ?_); rintro _ V1 ⟨rfl, hb1⟩)
        go_ret
        exact ⟨ret_bool HT.out.symm, bl2 hw hb1⟩
      | true =>
        have HC := Lib.hid (fun W => rcycle_val hcy W)
        have HCY2 : Hid (∀ c ∈ l.take (q + 1), cycB c = true) := (by
          rw [HZ.out]
          intro c hc
          rcases List.mem_append.1 hc with h | h
          · exact HCY.out c h
          · rw [List.mem_singleton.1 h]; exact hcy : ∀ c ∈ l.take (q + 1), cycB c = true)
        clear hcy
        go_wp2_with (go_at_call 27; (with_reducible refine (HC.out _).mono ?_); rintro _ V1 ⟨rfl, hb1⟩)
        go_roundw
        case rel => exact ⟨q + 1, by omega, by go_num, HCY2, bl2 hw hb1, ga.below hb1 ga.lt⟩
        case measure => simp [intOf]; omega
    · obtain rfl : q = l.length := by omega
      have HALL : Hid (l.all cycB = true) := (by have h := HCY.out; rw [List.take_of_length_le (Nat.le_refl _)] at h; exact List.all_eq_true.2 h : l.all cycB = true)
      clear HCY hq hlt
      by_cases h8 : l.length ≤ 8
      · have t1 : decide ((l.length : Int) ≤ 8) = true := by simp; omega
        cases hs : solB ⟨e, b, u⟩ with
        | false =>
          have HSV := Lib.hid (fun W => rsolar_val hs W)
          have HT : Hid (almB ⟨A, c, l, ⟨e, b, u⟩, ⟨d, p, f, m, y, s, k⟩⟩ = false) := (by simp [almB, hs] : almB _ = false)
          clear hs
          go_wp2_with (first | (go_at_call 44; (with_reducible refine (HSV.out _).mono ?_); rintro _ W2 ⟨rfl, hb2⟩; have hw := bl2 hw hb2; have ga := ga.below hb2 ga.lt; (have z0 := ga.cell 0; have z1 := ga.cell 1; have z2 := ga.cell 2; have z3 := ga.cell 3; have z4 := ga.cell 4; have z5 := ga.cell 5; have z6 := ga.cell 6; have z7 := ga.cell 7; have z8 := ga.cell 8; have z9 := ga.cell 9; have z10 := ga.cell 10; simp at z0 z1 z2 z3 z4 z5 z6 z7 z8 z9 z10)) | (go_at_call 49; (with_reducible refine (HLV.out _).mono ?_); rintro _ W3 ⟨rfl, hb3⟩; have hw := bl2 hw hb3))
          go_ret
          exact ⟨ret_bool HT.out.symm, hw⟩
        | true =>
          have HSV := Lib.hid (fun W => rsolar_val hs W)
          have HLV := Lib.hid (fun W => rlunar_any d p f m y s k W)
          obtain ⟨v, hv⟩ : ∃ v, v = lunB ⟨d, p, f, m, y, s, k⟩ := ⟨_, rfl⟩
          rw [← hv] at HLV
          have HT : Hid (almB ⟨A, c, l, ⟨e, b, u⟩, ⟨d, p, f, m, y, s, k⟩⟩ = v) := (by simp [almB, hs, HALL.out, h8, hv] : almB _ = v)
          clear hs hv
          go_wp2_with (first | (go_at_call 44; (with_reducible refine (HSV.out _).mono ?_); rintro _ W2 ⟨rfl, hb2⟩; have hw := bl2 hw hb2; have ga := ga.below hb2 ga.lt; (have z0 := ga.cell 0; have z1 := ga.cell 1; have z2 := ga.cell 2; have z3 := ga.cell 3; have z4 := ga.cell 4; have z5 := ga.cell 5; have z6 := ga.cell 6; have z7 := ga.cell 7; have z8 := ga.cell 8; have z9 := ga.cell 9; have z10 := ga.cell 10; simp at z0 z1 z2 z3 z4 z5 z6 z7 z8 z9 z10)) | (go_at_call 49; (with_reducible refine (HLV.out _).mono ?_); rintro _ W3 ⟨rfl, hb3⟩; have hw := bl2 hw hb3))
          go_ret
          exact ⟨ret_bool HT.out.symm, hw⟩
      · have t1 : decide ((l.length : Int) ≤ 8) = false := by simp; omega
        have HT : Hid (almB ⟨A, c, l, ⟨e, b, u⟩, ⟨d, p, f, m, y, s, k⟩⟩ = false) := (by simp [almB]; intro h; omega : almB _ = false)
        go_wp2_with fail
        go_ret
        exact ⟨ret_bool HT.out.symm, hw⟩
end Go.Proofs.Ytfbnllmmoaialaa

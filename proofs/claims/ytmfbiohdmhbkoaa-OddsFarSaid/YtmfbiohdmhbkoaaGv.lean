/- odds: numbers of two words. -/
import Derived.Test.YtmfbiohdmhbkoaaGu
import Derived.Test.YtmfbiohdmhbkoaaPt
import Derived.Laws.Externs
import Derived.Deep.RegionHeld
namespace Go.Proofs.Ytmfbiohdmhbkoaa
open Go.RowKit

/-- a number of two words -/
def wideV (n : Int) : Value := .agg #[.int .u64 (n / 18446744073709551616), .int .u64 (n % 18446744073709551616)]
theorem mul64_int (a b : Int) (w : World) (ha : 0 ≤ a) (hb : 0 ≤ b) (ha' : a < 18446744073709551616) (hb' : b < 18446744073709551616) :
    Calls Try.prog 89 #[.int .u64 a, .int .u64 b] w fun e w' => e = .returned (.tuple #[.int .u64 (a * b / 18446744073709551616), .int .u64 (a * b % 18446744073709551616)]) ∧ w = w' := by
  obtain ⟨x, rfl⟩ := Int.eq_ofNat_of_zero_le ha
  obtain ⟨y, rfl⟩ := Int.eq_ofNat_of_zero_le hb
  have := mul64_any x y (by omega) (by omega) w
  rw [mulNN]
  exact this
set_option maxRecDepth 100000 in
set_option maxHeartbeats 1000000 in
theorem times_any (a b : Int) (w : World) (ha : 0 ≤ a) (hb : 0 ≤ b) (ha' : a ≤ 9223372036854775807) (hb' : b ≤ 9223372036854775807) :
    Calls Try.prog 79 #[.int .i64 a, .int .i64 b] w fun e w' => e = .returned (wideV (a * b)) ∧ Below w.heap.size w w' := by
  have HM := Lib.hid (fun w => mul64_int a b w ha hb (by omega) (by omega))
  have HT : Hid (wideV (a * b) = .agg #[.int .u64 (a * b / 18446744073709551616), .int .u64 (a * b % 18446744073709551616)]) := (rfl : wideV (a * b) = _)
  obtain ⟨x, hx⟩ : ∃ x, x = a * b / 18446744073709551616 := ⟨_, rfl⟩
  obtain ⟨y, hy⟩ : ∃ y, y = a * b % 18446744073709551616 := ⟨_, rfl⟩
  rw [← hx, ← hy] at HM HT
  clear hx hy
  go_enter Try.func79, Try.ntmps79
  go_wp2_with (go_at_call 89; refine (HM.out _).mono ?_; rintro _ _ ⟨rfl, rfl⟩)
  refine gen_w (fun W => Blk W w.heap.size #[.int .u64 x, .int .u64 y] 97 ∧ Below w.heap.size w W) ⟨Blk.at_ (by simp), by (repeat (first | exact Below.refl _ _ | assumption | (refine Below.alloc ?_ (by first | omega | (simp; omega) | (simp; done)) _) | (refine Below.setCell ?_ (by first | omega | (simp; omega) | (simp; done)) _) | (refine Below.drew ?_) | (refine belowN ?_ _) | (refine Below.trans ?_ (Below.mono ‹Below _ _ _› (by first | omega | (simp; omega) | (simp; done))))))⟩ ?_
  rintro W ⟨gW, hW⟩
  have q0 := gW.cell 0; have q1 := gW.cell 1
  simp at q0 q1
  exact bodyPost_ret (v := .agg #[.int .u64 x, .int .u64 y]) (by simp [results, Try.results79, go_sem, q0, q1]) rfl ⟨by rw [HT.out], hW⟩
set_option maxRecDepth 100000 in
set_option maxHeartbeats 1000000 in
theorem cmp64_any (a b : Int) (w : World) : Calls Try.prog 99 #[.int .u64 a, .int .u64 b] w fun e w' => e = .returned (.int .i64 (cmpI a b)) ∧ w = w' := by
  go_enter Try.func99, Try.ntmps99
  go_wp2
  all_goals (go_ret; refine ⟨?_, rfl⟩; unfold cmpI; (repeat' split) <;> first | rfl | (exfalso; omega) | skip)
theorem add64_run (x y c : Int) (hx : 0 ≤ x) (hx' : x < 18446744073709551616) (hy : 0 ≤ y) (hy' : y < 18446744073709551616) (hc : 0 ≤ c) (hc' : c ≤ 1) (w : World) :
    (callFunc 100 #[.int .u64 x, .int .u64 y, .int .u64 c]).run Try.prog w = .ok (.value (.tuple #[.int .u64 ((x + y + c) % 18446744073709551616), .int .u64 ((x + y + c) / 18446744073709551616)])) w := by
  obtain ⟨x, rfl⟩ := Int.eq_ofNat_of_zero_le hx
  obtain ⟨y, rfl⟩ := Int.eq_ofNat_of_zero_le hy
  obtain ⟨c, rfl⟩ := Int.eq_ofNat_of_zero_le hc
  rw [run_callFunc_extern Try.func100 (by kernel_rfl) (by kernel_rfl) (by kernel_rfl) (e := add64Entry) (by kernel_rfl), run_add64 x y c (by omega) (by omega) (by omega) (by omega)]
  simp only [Result.andThen]
  all_goals (congr 5 <;> omega)
set_option maxRecDepth 100000 in
set_option maxHeartbeats 1000000 in
theorem wplus_any (m n : Int) (w : World) (hm : 0 ≤ m) (hn : 0 ≤ n) (hs : m + n < 340282366920938463463374607431768211456) :
    Calls Try.prog 81 #[wideV m, wideV n] w fun e w' => e = .returned (wideV (m + n)) ∧ Below w.heap.size w w' := by
  obtain ⟨a, ha⟩ : ∃ x, x = m / 18446744073709551616 := ⟨_, rfl⟩
  obtain ⟨b, hb⟩ : ∃ x, x = m % 18446744073709551616 := ⟨_, rfl⟩
  obtain ⟨c, hc⟩ : ∃ x, x = n / 18446744073709551616 := ⟨_, rfl⟩
  obtain ⟨d, hd⟩ : ∃ x, x = n % 18446744073709551616 := ⟨_, rfl⟩
  have HT : Hid (wideV (m + n) = .agg #[.int .u64 ((a + c + (b + d + 0) / 18446744073709551616) % 18446744073709551616), .int .u64 ((b + d + 0) % 18446744073709551616)]) := by
    show wideV (m + n) = _
    unfold wideV
    rw [show (m + n) / 18446744073709551616 = (a + c + (b + d + 0) / 18446744073709551616) % 18446744073709551616 by omega, show (m + n) % 18446744073709551616 = (b + d + 0) % 18446744073709551616 by omega]
  have e1 : wideV m = .agg #[.int .u64 a, .int .u64 b] := by rw [ha, hb]; rfl
  have e2 : wideV n = .agg #[.int .u64 c, .int .u64 d] := by rw [hc, hd]; rfl
  have a0 : 0 ≤ a := by omega
  have a1 : a < 18446744073709551616 := by omega
  have b0 : 0 ≤ b := by omega
  have b1 : b < 18446744073709551616 := by omega
  have c0 : 0 ≤ c := by omega
  have c1 : c < 18446744073709551616 := by omega
  have d0 : 0 ≤ d := by omega
  have d1 : d < 18446744073709551616 := by omega
  rw [e1, e2]
  have A1 := Lib.hid (fun w => add64_run b d 0 b0 b1 d0 d1 (by omega) (by omega) w)
  have A2 := Lib.hid (fun w => add64_run a c ((b + d + 0) / 18446744073709551616) a0 a1 c0 c1 (by omega) (by omega) w)
  obtain ⟨x, hx⟩ : ∃ x, x = (b + d + 0) % 18446744073709551616 := ⟨_, rfl⟩
  obtain ⟨k, hk⟩ : ∃ x, x = (b + d + 0) / 18446744073709551616 := ⟨_, rfl⟩
  rw [← hx, ← hk] at HT A1
  rw [← hk] at A2
  obtain ⟨y, hy⟩ : ∃ x, x = (a + c + k) % 18446744073709551616 := ⟨_, rfl⟩
  rw [← hy] at HT A2
  clear e1 e2 ha hb hc hd hx hk hy hm hn hs
  go_enter Try.func81, Try.ntmps81
  go_wp2_with (first | simp only [A1.out] | simp only [A2.out])
  refine gen_w (fun W => Blk W (w.heap.size + 1 + 1) #[.int .u64 y, .int .u64 x] 97 ∧ Below w.heap.size w W) ⟨Blk.at_ (by simp), by (repeat (first | exact Below.refl _ _ | assumption | (refine Below.alloc ?_ (by first | omega | (simp; omega) | (simp; done)) _) | (refine Below.setCell ?_ (by first | omega | (simp; omega) | (simp; done)) _) | (refine Below.drew ?_) | (refine belowN ?_ _) | (refine Below.trans ?_ (Below.mono ‹Below _ _ _› (by first | omega | (simp; omega) | (simp; done))))))⟩ ?_
  rintro W ⟨gW, hW⟩
  have q0 := gW.cell 0; have q1 := gW.cell 1
  simp at q0 q1
  exact bodyPost_ret (v := .agg #[.int .u64 y, .int .u64 x]) (by simp [results, Try.results81, go_sem, q0, q1]) rfl ⟨by rw [HT.out], hW⟩
/-- the first number that is not 0 -/
def orV (a b : Int) : Int := if a ≠ 0 then a else b
set_option maxHeartbeats 1000000 in
theorem or_any (a b : Int) (W1 : World) (B : Nat) (c0 : W1.cell? ⟨B, 0, none⟩ = some (.int .i64 a)) (c1 : W1.cell? ⟨B, 1, none⟩ = some (.int .i64 b)) : Calls Try.prog 98 #[.slice (some ⟨B, 0, none⟩) 2 2] W1 fun e w' => e = .returned (.int .i64 (orV a b)) ∧ W1 = w' := by
  by_cases h0 : a = 0
  · by_cases h1 : b = 0
    · have HT : Hid (orV a b = 0) := (by unfold orV; rw [if_neg (by simp [h0]), h1] : orV a b = 0)
      subst h0 h1
      go_enter Try.func98, Try.ntmps98
      go_wp2
      go_loop [8] (fun i => ∃ k : Nat, k ≤ 2 ∧ i = .int .i64 k) (fun i => 2 - (intOf i).toNat)
      case atStart => exact ⟨0, by omega, rfl⟩
      case round =>
        obtain ⟨k, hk, rfl⟩ := hrel
        obtain rfl | rfl | rfl : k = 0 ∨ k = 1 ∨ k = 2 := by omega
        · go_wp2
          go_round
          case rel => exact ⟨1, by omega, rfl⟩
          case measure => simp [intOf]
        · go_wp2
          go_round
          case rel => exact ⟨2, by omega, rfl⟩
          case measure => simp [intOf]
        · go_wp2
          go_ret
          exact ⟨ret_int HT.out.symm, rfl⟩
    · have HT : Hid (orV a b = b) := (by unfold orV; rw [if_neg (by simp [h0])] : orV a b = b)
      subst h0
      go_enter Try.func98, Try.ntmps98
      go_wp2
      go_loop [8] (fun i => ∃ k : Nat, k ≤ 1 ∧ i = .int .i64 k) (fun i => 2 - (intOf i).toNat)
      case atStart => exact ⟨0, by omega, rfl⟩
      case round =>
        obtain ⟨k, hk, rfl⟩ := hrel
        obtain rfl | rfl : k = 0 ∨ k = 1 := by omega
        · go_wp2
          go_round
          case rel => exact ⟨1, by omega, rfl⟩
          case measure => simp [intOf]
        · go_wp2
          go_ret
          exact ⟨ret_int HT.out.symm, rfl⟩
  · have HT : Hid (orV a b = a) := (by unfold orV; rw [if_pos h0] : orV a b = a)
    go_enter Try.func98, Try.ntmps98
    go_wp2
    go_loop [8] (fun i => i = .int .i64 0) (fun i => 2 - (intOf i).toNat)
    case atStart => rfl
    case round =>
      subst hrel
      go_wp2
      go_ret
      exact ⟨ret_int HT.out.symm, rfl⟩
theorem or_cmp (m n : Int) : orV (cmpI (m / 18446744073709551616) (n / 18446744073709551616)) (cmpI (m % 18446744073709551616) (n % 18446744073709551616)) = cmpI m n := by
  unfold orV cmpI
  (repeat' split) <;> first | rfl | omega
set_option maxRecDepth 100000 in
set_option maxHeartbeats 1000000 in
theorem wcompare_any (m n : Int) (w : World) :
    Calls Try.prog 80 #[wideV m, wideV n] w fun e w' => e = .returned (.int .i64 (cmpI m n)) ∧ Below w.heap.size w w' := by
  have HC := Lib.hid cmp64_any
  have HT := Lib.hid (or_cmp m n)
  obtain ⟨a, ha⟩ : ∃ x, x = m / 18446744073709551616 := ⟨_, rfl⟩
  obtain ⟨b, hb⟩ : ∃ x, x = m % 18446744073709551616 := ⟨_, rfl⟩
  obtain ⟨c, hc⟩ : ∃ x, x = n / 18446744073709551616 := ⟨_, rfl⟩
  obtain ⟨d, hd⟩ : ∃ x, x = n % 18446744073709551616 := ⟨_, rfl⟩
  have e1 : wideV m = .agg #[.int .u64 a, .int .u64 b] := by rw [ha, hb]; rfl
  have e2 : wideV n = .agg #[.int .u64 c, .int .u64 d] := by rw [hc, hd]; rfl
  rw [e1, e2]
  rw [← ha, ← hb, ← hc, ← hd] at HT
  clear e1 e2 ha hb hc hd
  go_enter Try.func80, Try.ntmps80
  go_wp2
  refine gen_w (fun W => Blk W w.heap.size #[.int .u64 a, .int .u64 b] 97 ∧ Blk W (w.heap.size + 1) #[.int .u64 c, .int .u64 d] 97 ∧ Below w.heap.size w W) ⟨(Blk.at_ (by simp)).alloc _, Blk.at_ (by simp), by (repeat (first | exact Below.refl _ _ | assumption | (refine Below.alloc ?_ (by first | omega | (simp; omega) | (simp; done)) _) | (refine Below.setCell ?_ (by first | omega | (simp; omega) | (simp; done)) _) | (refine Below.drew ?_) | (refine belowN ?_ _) | (refine Below.trans ?_ (Below.mono ‹Below _ _ _› (by first | omega | (simp; omega) | (simp; done))))))⟩ ?_
  rintro W ⟨gA, gB, hW⟩
  have s0 := gA.cell 0; have s1 := gA.cell 1; have t0 := gB.cell 0; have t1 := gB.cell 1
  have hz := hW.size
  simp at s0 s1 t0 t1
  go_region_held (fun W' => W'.cell? ⟨w.heap.size, 0, none⟩ = some (.int .u64 a) ∧ W'.cell? ⟨w.heap.size, 1, none⟩ = some (.int .u64 b) ∧ W'.cell? ⟨w.heap.size + 1, 0, none⟩ = some (.int .u64 c) ∧ W'.cell? ⟨w.heap.size + 1, 1, none⟩ = some (.int .u64 d)) (first | exact ⟨s0, s1, t0, t1⟩ | go_keep) (first | (go_at_call 99; refine (HC.out _ _ _).mono ?_; rintro _ _ ⟨rfl, rfl⟩) | (go_at_call 98; refine (or_any (cmpI a c) (cmpI b d) _ _ (by simp) (by simp)).mono ?_; rintro _ _ ⟨rfl, rfl⟩))
  all_goals (
    go_wp2
    go_ret
    rw [HT.out]
    exact ⟨rfl, by (repeat (first | exact Below.refl _ _ | assumption | (refine Below.alloc ?_ (by first | omega | (simp; omega) | (simp; done)) _) | (refine Below.setCell ?_ (by first | omega | (simp; omega) | (simp; done)) _) | (refine Below.drew ?_) | (refine belowN ?_ _) | (refine Below.trans ?_ (Below.mono ‹Below _ _ _› (by first | omega | (simp; omega) | (simp; done))))))⟩)
theorem two_words (n : Int) : n / 18446744073709551616 * 18446744073709551616 + n % 18446744073709551616 = n := by omega
theorem mod_words (n y : Int) : ((n / 18446744073709551616) % y * 18446744073709551616 + n % 18446744073709551616) % y = n % y := by
  conv => rhs; rw [← two_words n]
  rw [Int.add_emod, Int.mul_emod, Int.emod_emod_of_dvd _ (Int.dvd_refl y), ← Int.mul_emod, ← Int.add_emod]
set_option maxRecDepth 100000 in
theorem rem64_any (hi lo y : Int) (hy : 0 < y) (hy' : y < 9223372036854775808) (h0 : 0 ≤ hi) (h1 : hi < 18446744073709551616) (hl0 : 0 ≤ lo) (hl : lo < 18446744073709551616) (w : World) :
    Calls Try.prog 101 #[.int .u64 hi, .int .u64 lo, .int .u64 y] w fun e w' => e = .returned (.int .u64 ((hi % y * 18446744073709551616 + lo) % y)) ∧ Below w.heap.size w w' := by
  obtain ⟨r0, r1⟩ := rest_bd (n := hi) hy
  have HD := Lib.hid (fun w => div64_any (hi % y) lo y hy hy' r0 r1 hl0 hl w)
  have yn : y ≠ 0 := by omega
  obtain ⟨r, hr⟩ : ∃ r, r = hi % y := ⟨_, rfl⟩
  obtain ⟨q, hq⟩ : ∃ q, q = (r * 18446744073709551616 + lo) / y := ⟨_, rfl⟩
  obtain ⟨p, hp⟩ : ∃ q, q = (r * 18446744073709551616 + lo) % y := ⟨_, rfl⟩
  rw [← hr] at HD r0 r1 ⊢
  rw [← hq, ← hp] at HD
  rw [← hp]
  have e := hr.symm
  clear hr hq hp
  go_enter Try.func101, Try.ntmps101
  go_wp2_with (go_at_call 102; refine (HD.out _).mono ?_; rintro _ w1 ⟨rfl, hb1⟩)
  go_ret
  exact ⟨rfl, hb1⟩
set_option maxRecDepth 100000 in
theorem wmod_any (n d : Int) (w : World) (h0 : 0 ≤ n) (h1 : n < 340282366920938463463374607431768211456) (hd : 0 < d) (hd' : d ≤ 9223372036854775807) :
    Calls Try.prog 82 #[wideV n, .int .i64 d] w fun e w' => e = .returned (.int .i64 (n % d)) ∧ Below w.heap.size w w' := by
  have HR := Lib.hid (fun w => rem64_any (n / 18446744073709551616) (n % 18446744073709551616) d hd (by omega) (by omega) (by omega) (by omega) (by omega) w)
  rw [mod_words] at HR
  obtain ⟨r0, r1⟩ := rest_bd (n := n) hd
  obtain ⟨a, ha⟩ : ∃ x, x = n / 18446744073709551616 := ⟨_, rfl⟩
  obtain ⟨b, hb⟩ : ∃ x, x = n % 18446744073709551616 := ⟨_, rfl⟩
  obtain ⟨r, hr⟩ : ∃ x, x = n % d := ⟨_, rfl⟩
  have e1 : wideV n = .agg #[.int .u64 a, .int .u64 b] := by rw [ha, hb]; rfl
  rw [e1]
  rw [← ha, ← hb, ← hr] at HR
  rw [← hr] at r0 r1 ⊢
  clear e1 ha hb hr
  go_enter Try.func82, Try.ntmps82
  go_wp2_with (go_at_call 101; refine (HR.out _).mono ?_; rintro _ w1 ⟨rfl, hb1⟩)
  go_ret
  exact ⟨rfl, bl3 (Below.refl _ _) hb1⟩
set_option maxRecDepth 100000 in
theorem wover_any (n d : Int) (w : World) (h0 : 0 ≤ n) (hd : 0 < d) (hd' : d ≤ 9223372036854775807) (hq : n / 18446744073709551616 < d) (hq2 : n / d ≤ 9223372036854775807) :
    Calls Try.prog 83 #[wideV n, .int .i64 d] w fun e w' => e = .returned (.int .i64 (n / d)) ∧ Below w.heap.size w w' := by
  have HR := Lib.hid (fun w => div64_any (n / 18446744073709551616) (n % 18446744073709551616) d hd (by omega) (by omega) hq (by omega) (by omega) w)
  rw [two_words] at HR
  have r0 := Int.ediv_nonneg h0 (Int.le_of_lt hd)
  obtain ⟨a, ha⟩ : ∃ x, x = n / 18446744073709551616 := ⟨_, rfl⟩
  obtain ⟨b, hb⟩ : ∃ x, x = n % 18446744073709551616 := ⟨_, rfl⟩
  obtain ⟨r, hr⟩ : ∃ x, x = n / d := ⟨_, rfl⟩
  obtain ⟨p, hp⟩ : ∃ x, x = n % d := ⟨_, rfl⟩
  have e1 : wideV n = .agg #[.int .u64 a, .int .u64 b] := by rw [ha, hb]; rfl
  rw [e1]
  rw [← ha, ← hb, ← hr, ← hp] at HR
  rw [← hr] at r0 hq2 ⊢
  clear e1 ha hb hr hp hq
  go_enter Try.func83, Try.ntmps83
  go_wp2_with (go_at_call 102; refine (HR.out _).mono ?_; rintro _ w1 ⟨rfl, hb1⟩)
  go_ret
  exact ⟨rfl, bl3 (Below.refl _ _) hb1⟩
end Go.Proofs.Ytmfbiohdmhbkoaa

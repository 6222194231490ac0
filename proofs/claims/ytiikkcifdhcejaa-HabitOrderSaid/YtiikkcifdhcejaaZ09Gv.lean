/- odds: numbers of two words. -/
import Derived.Test.YtiikkcifdhcejaaGu
import Derived.Test.YtiikkcifdhcejaaZ01Cls
import Derived.Laws.Externs
import Derived.Deep.RegionHeld
import Derived.Test.YtiikkcifdhcejaaZ06Pg
import Derived.OwnWalk
import Derived.Laws.AppendOwn
namespace Go.Proofs.Ytiikkcifdhcejaa
open Go.RowKit

/-- a number of two words -/
def wideV (n : Int) : Value := .agg #[.int .u64 (n / 18446744073709551616), .int .u64 (n % 18446744073709551616)]
theorem mul64_int (a b : Int) (w : World) (ha : 0 ≤ a) (hb : 0 ≤ b) (ha' : a < 18446744073709551616) (hb' : b < 18446744073709551616) :
    Calls Try.prog 90 #[.int .u64 a, .int .u64 b] w fun e w' => e = .returned (.tuple #[.int .u64 (a * b / 18446744073709551616), .int .u64 (a * b % 18446744073709551616)]) ∧ w = w' := by
  obtain ⟨x, rfl⟩ := Int.eq_ofNat_of_zero_le ha
  obtain ⟨y, rfl⟩ := Int.eq_ofNat_of_zero_le hb
  have := mul64_any x y (by omega) (by omega) w
  rw [mulNN]
  exact this
set_option maxRecDepth 100000 in
set_option maxHeartbeats 1000000 in
theorem times_any (a b : Int) (w : World) (ha : 0 ≤ a) (hb : 0 ≤ b) (ha' : a ≤ 9223372036854775807) (hb' : b ≤ 9223372036854775807) :
    Calls Try.prog 64 #[.int .i64 a, .int .i64 b] w fun e w' => e = .returned (wideV (a * b)) ∧ Below w.heap.size w w' := by
  have HM := Lib.hid (fun w => mul64_int a b w ha hb (by omega) (by omega))
  have HT : Hid (wideV (a * b) = .agg #[.int .u64 (a * b / 18446744073709551616), .int .u64 (a * b % 18446744073709551616)]) := (rfl : wideV (a * b) = _)
  obtain ⟨x, hx⟩ : ∃ x, x = a * b / 18446744073709551616 := ⟨_, rfl⟩
  obtain ⟨y, hy⟩ : ∃ y, y = a * b % 18446744073709551616 := ⟨_, rfl⟩
  rw [← hx, ← hy] at HM HT
  clear hx hy
  go_enter Try.func64, Try.ntmps64
  go_wp2_with (go_at_call 90; refine (HM.out _).mono ?_; rintro _ _ ⟨rfl, rfl⟩)
  refine gen_w (fun W => Blk W w.heap.size #[.int .u64 x, .int .u64 y] 108 ∧ Below w.heap.size w W) ⟨Blk.at_ (by simp), by (repeat (first | exact Below.refl _ _ | assumption | (refine Below.alloc ?_ (by first | omega | (simp; omega) | (simp; done)) _) | (refine Below.setCell ?_ (by first | omega | (simp; omega) | (simp; done)) _) | (refine Below.drew ?_) | (refine belowN ?_ _) | (refine Below.trans ?_ (Below.mono ‹Below _ _ _› (by first | omega | (simp; omega) | (simp; done))))))⟩ ?_
  rintro W ⟨gW, hW⟩
  have q0 := gW.cell 0; have q1 := gW.cell 1
  simp at q0 q1
  exact bodyPost_ret (v := .agg #[.int .u64 x, .int .u64 y]) (by simp [results, Try.results64, go_sem, q0, q1]) rfl ⟨by rw [HT.out], hW⟩
set_option maxRecDepth 100000 in
set_option maxHeartbeats 1000000 in
theorem cmp64_any (a b : Int) (w : World) : Calls Try.prog 92 #[.int .u64 a, .int .u64 b] w fun e w' => e = .returned (.int .i64 (cmpI a b)) ∧ w = w' := by
  go_enter Try.func92, Try.ntmps92
  go_wp2
  all_goals (go_ret; refine ⟨?_, rfl⟩; unfold cmpI; (repeat' split) <;> first | rfl | (exfalso; omega) | skip)
theorem add64_run (x y c : Int) (hx : 0 ≤ x) (hx' : x < 18446744073709551616) (hy : 0 ≤ y) (hy' : y < 18446744073709551616) (hc : 0 ≤ c) (hc' : c ≤ 1) (w : World) :
    (callFunc 94 #[.int .u64 x, .int .u64 y, .int .u64 c]).run Try.prog w = .ok (.value (.tuple #[.int .u64 ((x + y + c) % 18446744073709551616), .int .u64 ((x + y + c) / 18446744073709551616)])) w := by
  obtain ⟨x, rfl⟩ := Int.eq_ofNat_of_zero_le hx
  obtain ⟨y, rfl⟩ := Int.eq_ofNat_of_zero_le hy
  obtain ⟨c, rfl⟩ := Int.eq_ofNat_of_zero_le hc
  rw [run_callFunc_extern Try.func94 (by kernel_rfl) (by kernel_rfl) (by kernel_rfl) (e := add64Entry) (by kernel_rfl), run_add64 x y c (by omega) (by omega) (by omega) (by omega)]
  simp only [Result.andThen]
  all_goals (congr 5 <;> omega)
set_option maxRecDepth 100000 in
set_option maxHeartbeats 1000000 in
theorem wplus_any (m n : Int) (w : World) (hm : 0 ≤ m) (hn : 0 ≤ n) (hs : m + n < 340282366920938463463374607431768211456) :
    Calls Try.prog 68 #[wideV m, wideV n] w fun e w' => e = .returned (wideV (m + n)) ∧ Below w.heap.size w w' := by
  obtain ⟨a, ha⟩ : ∃ x, x = m / 18446744073709551616 := ⟨_, rfl⟩
  obtain ⟨b, hb⟩ : ∃ x, x = m % 18446744073709551616 := ⟨_, rfl⟩
  obtain ⟨c, hc⟩ : ∃ x, x = n / 18446744073709551616 := ⟨_, rfl⟩
  obtain ⟨d, hd⟩ : ∃ x, x = n % 18446744073709551616 := ⟨_, rfl⟩
  have HT : Hid (wideV (m + n) = .agg #[.int .u64 ((a + c + (b + d + 0) / 18446744073709551616) % 18446744073709551616), .int .u64 ((b + d + 0) % 18446744073709551616)]) := by
    show wideV (m + n) = _
    unfold wideV
    rw [show (m + n) / 18446744073709551616 = (a + c + (b + d + 0) / 18446744073709551616) % 18446744073709551616 by omega, show (m + n) % 18446744073709551616 = (b + d + 0) % 18446744073709551616 by omega]
  have e1 : wideV m = .agg #[.int .u64 a, .int .u64 b] := by rw [ha, hb]; rfl
  have e2 : wideV n = .agg #[.int .u64 c, .int .u64 d] := by rw [hc, hd]; rfl
  have a0 : 0 ≤ a := by omega
  have a1 : a < 18446744073709551616 := by omega
  have b0 : 0 ≤ b := by omega
  have b1 : b < 18446744073709551616 := by omega
  have c0 : 0 ≤ c := by omega
  have c1 : c < 18446744073709551616 := by omega
  have d0 : 0 ≤ d := by omega
  have d1 : d < 18446744073709551616 := by omega
  rw [e1, e2]
  have A1 := Lib.hid (fun w => add64_run b d 0 b0 b1 d0 d1 (by omega) (by omega) w)
  have A2 := Lib.hid (fun w => add64_run a c ((b + d + 0) / 18446744073709551616) a0 a1 c0 c1 (by omega) (by omega) w)
  obtain ⟨x, hx⟩ : ∃ x, x = (b + d + 0) % 18446744073709551616 := ⟨_, rfl⟩
  obtain ⟨k, hk⟩ : ∃ x, x = (b + d + 0) / 18446744073709551616 := ⟨_, rfl⟩
  rw [← hx, ← hk] at HT A1
  rw [← hk] at A2
  obtain ⟨y, hy⟩ : ∃ x, x = (a + c + k) % 18446744073709551616 := ⟨_, rfl⟩
  rw [← hy] at HT A2
  clear e1 e2 ha hb hc hd hx hk hy hm hn hs
  go_enter Try.func68, Try.ntmps68
  go_wp2_with (first | simp only [A1.out] | simp only [A2.out])
  refine gen_w (fun W => Blk W (w.heap.size + 1 + 1) #[.int .u64 y, .int .u64 x] 108 ∧ Below w.heap.size w W) ⟨Blk.at_ (by simp), by (repeat (first | exact Below.refl _ _ | assumption | (refine Below.alloc ?_ (by first | omega | (simp; omega) | (simp; done)) _) | (refine Below.setCell ?_ (by first | omega | (simp; omega) | (simp; done)) _) | (refine Below.drew ?_) | (refine belowN ?_ _) | (refine Below.trans ?_ (Below.mono ‹Below _ _ _› (by first | omega | (simp; omega) | (simp; done))))))⟩ ?_
  rintro W ⟨gW, hW⟩
  have q0 := gW.cell 0; have q1 := gW.cell 1
  simp at q0 q1
  exact bodyPost_ret (v := .agg #[.int .u64 y, .int .u64 x]) (by simp [results, Try.results68, go_sem, q0, q1]) rfl ⟨by rw [HT.out], hW⟩
/-- the first number that is not 0 -/
def orV (a b : Int) : Int := if a ≠ 0 then a else b
set_option maxHeartbeats 1000000 in
theorem or_any (a b : Int) (W1 : World) (B : Nat) (c0 : W1.cell? ⟨B, 0, none⟩ = some (.int .i64 a)) (c1 : W1.cell? ⟨B, 1, none⟩ = some (.int .i64 b)) : Calls Try.prog 91 #[.slice (some ⟨B, 0, none⟩) 2 2] W1 fun e w' => e = .returned (.int .i64 (orV a b)) ∧ W1 = w' := by
  by_cases h0 : a = 0
  · by_cases h1 : b = 0
    · have HT : Hid (orV a b = 0) := (by unfold orV; rw [if_neg (by simp [h0]), h1] : orV a b = 0)
      subst h0 h1
      go_enter Try.func91, Try.ntmps91
      go_wp2
      go_loop [8] (fun i => ∃ k : Nat, k ≤ 2 ∧ i = .int .i64 k) (fun i => 2 - (intOf i).toNat)
      case atStart => exact ⟨0, by omega, rfl⟩
      case round =>
        obtain ⟨k, hk, rfl⟩ := hrel
        obtain rfl | rfl | rfl : k = 0 ∨ k = 1 ∨ k = 2 := by omega
        · go_wp2
          go_round
          case rel => exact ⟨1, by omega, rfl⟩
          case measure => simp [intOf]
        · go_wp2
          go_round
          case rel => exact ⟨2, by omega, rfl⟩
          case measure => simp [intOf]
        · go_wp2
          go_ret
          exact ⟨ret_int HT.out.symm, rfl⟩
    · have HT : Hid (orV a b = b) := (by unfold orV; rw [if_neg (by simp [h0])] : orV a b = b)
      subst h0
      go_enter Try.func91, Try.ntmps91
      go_wp2
      go_loop [8] (fun i => ∃ k : Nat, k ≤ 1 ∧ i = .int .i64 k) (fun i => 2 - (intOf i).toNat)
      case atStart => exact ⟨0, by omega, rfl⟩
      case round =>
        obtain ⟨k, hk, rfl⟩ := hrel
        obtain rfl | rfl : k = 0 ∨ k = 1 := by omega
        · go_wp2
          go_round
          case rel => exact ⟨1, by omega, rfl⟩
          case measure => simp [intOf]
        · go_wp2
          go_ret
          exact ⟨ret_int HT.out.symm, rfl⟩
  · have HT : Hid (orV a b = a) := (by unfold orV; rw [if_pos h0] : orV a b = a)
    go_enter Try.func91, Try.ntmps91
    go_wp2
    go_loop [8] (fun i => i = .int .i64 0) (fun i => 2 - (intOf i).toNat)
    case atStart => rfl
    case round =>
      subst hrel
      go_wp2
      go_ret
      exact ⟨ret_int HT.out.symm, rfl⟩
theorem or_cmp (m n : Int) : orV (cmpI (m / 18446744073709551616) (n / 18446744073709551616)) (cmpI (m % 18446744073709551616) (n % 18446744073709551616)) = cmpI m n := by
  unfold orV cmpI
  (repeat' split) <;> first | rfl | omega
set_option maxRecDepth 100000 in
set_option maxHeartbeats 1000000 in
theorem wcompare_any (m n : Int) (w : World) :
    Calls Try.prog 65 #[wideV m, wideV n] w fun e w' => e = .returned (.int .i64 (cmpI m n)) ∧ Below w.heap.size w w' := by
  have HC := Lib.hid cmp64_any
  have HT := Lib.hid (or_cmp m n)
  obtain ⟨a, ha⟩ : ∃ x, x = m / 18446744073709551616 := ⟨_, rfl⟩
  obtain ⟨b, hb⟩ : ∃ x, x = m % 18446744073709551616 := ⟨_, rfl⟩
  obtain ⟨c, hc⟩ : ∃ x, x = n / 18446744073709551616 := ⟨_, rfl⟩
  obtain ⟨d, hd⟩ : ∃ x, x = n % 18446744073709551616 := ⟨_, rfl⟩
  have e1 : wideV m = .agg #[.int .u64 a, .int .u64 b] := by rw [ha, hb]; rfl
  have e2 : wideV n = .agg #[.int .u64 c, .int .u64 d] := by rw [hc, hd]; rfl
  rw [e1, e2]
  rw [← ha, ← hb, ← hc, ← hd] at HT
  clear e1 e2 ha hb hc hd
  go_enter Try.func65, Try.ntmps65
  go_wp2
  refine gen_w (fun W => Blk W w.heap.size #[.int .u64 a, .int .u64 b] 108 ∧ Blk W (w.heap.size + 1) #[.int .u64 c, .int .u64 d] 108 ∧ Below w.heap.size w W) ⟨(Blk.at_ (by simp)).alloc _, Blk.at_ (by simp), by (repeat (first | exact Below.refl _ _ | assumption | (refine Below.alloc ?_ (by first | omega | (simp; omega) | (simp; done)) _) | (refine Below.setCell ?_ (by first | omega | (simp; omega) | (simp; done)) _) | (refine Below.drew ?_) | (refine belowN ?_ _) | (refine Below.trans ?_ (Below.mono ‹Below _ _ _› (by first | omega | (simp; omega) | (simp; done))))))⟩ ?_
  rintro W ⟨gA, gB, hW⟩
  have s0 := gA.cell 0; have s1 := gA.cell 1; have t0 := gB.cell 0; have t1 := gB.cell 1
  have hz := hW.size
  simp at s0 s1 t0 t1
  go_region_held (fun W' => W'.cell? ⟨w.heap.size, 0, none⟩ = some (.int .u64 a) ∧ W'.cell? ⟨w.heap.size, 1, none⟩ = some (.int .u64 b) ∧ W'.cell? ⟨w.heap.size + 1, 0, none⟩ = some (.int .u64 c) ∧ W'.cell? ⟨w.heap.size + 1, 1, none⟩ = some (.int .u64 d)) (first | exact ⟨s0, s1, t0, t1⟩ | go_keep) (first | (go_at_call 92; refine (HC.out _ _ _).mono ?_; rintro _ _ ⟨rfl, rfl⟩) | (go_at_call 91; refine (or_any (cmpI a c) (cmpI b d) _ _ (by simp) (by simp)).mono ?_; rintro _ _ ⟨rfl, rfl⟩))
  all_goals (
    go_wp2
    go_ret
    rw [HT.out]
    exact ⟨rfl, by (repeat (first | exact Below.refl _ _ | assumption | (refine Below.alloc ?_ (by first | omega | (simp; omega) | (simp; done)) _) | (refine Below.setCell ?_ (by first | omega | (simp; omega) | (simp; done)) _) | (refine Below.drew ?_) | (refine belowN ?_ _) | (refine Below.trans ?_ (Below.mono ‹Below _ _ _› (by first | omega | (simp; omega) | (simp; done))))))⟩)
theorem two_words (n : Int) : n / 18446744073709551616 * 18446744073709551616 + n % 18446744073709551616 = n := by omega
theorem mod_words (n y : Int) : ((n / 18446744073709551616) % y * 18446744073709551616 + n % 18446744073709551616) % y = n % y := by
  conv => rhs; rw [← two_words n]
  rw [Int.add_emod, Int.mul_emod, Int.emod_emod_of_dvd _ (Int.dvd_refl y), ← Int.mul_emod, ← Int.add_emod]
set_option maxRecDepth 100000 in
theorem rem64_any (hi lo y : Int) (hy : 0 < y) (hy' : y < 9223372036854775808) (h0 : 0 ≤ hi) (h1 : hi < 18446744073709551616) (hl0 : 0 ≤ lo) (hl : lo < 18446744073709551616) (w : World) :
    Calls Try.prog 95 #[.int .u64 hi, .int .u64 lo, .int .u64 y] w fun e w' => e = .returned (.int .u64 ((hi % y * 18446744073709551616 + lo) % y)) ∧ Below w.heap.size w w' := by
  obtain ⟨r0, r1⟩ := rest_bd (n := hi) hy
  have HD := Lib.hid (fun w => div64_any (hi % y) lo y hy hy' r0 r1 hl0 hl w)
  have yn : y ≠ 0 := by omega
  obtain ⟨r, hr⟩ : ∃ r, r = hi % y := ⟨_, rfl⟩
  obtain ⟨q, hq⟩ : ∃ q, q = (r * 18446744073709551616 + lo) / y := ⟨_, rfl⟩
  obtain ⟨p, hp⟩ : ∃ q, q = (r * 18446744073709551616 + lo) % y := ⟨_, rfl⟩
  rw [← hr] at HD r0 r1 ⊢
  rw [← hq, ← hp] at HD
  rw [← hp]
  have e := hr.symm
  clear hr hq hp
  go_enter Try.func95, Try.ntmps95
  go_wp2_with (go_at_call 96; refine (HD.out _).mono ?_; rintro _ w1 ⟨rfl, hb1⟩)
  go_ret
  exact ⟨rfl, hb1⟩
set_option maxRecDepth 100000 in
theorem wmod_any (n d : Int) (w : World) (h0 : 0 ≤ n) (h1 : n < 340282366920938463463374607431768211456) (hd : 0 < d) (hd' : d ≤ 9223372036854775807) :
    Calls Try.prog 69 #[wideV n, .int .i64 d] w fun e w' => e = .returned (.int .i64 (n % d)) ∧ Below w.heap.size w w' := by
  have HR := Lib.hid (fun w => rem64_any (n / 18446744073709551616) (n % 18446744073709551616) d hd (by omega) (by omega) (by omega) (by omega) (by omega) w)
  rw [mod_words] at HR
  obtain ⟨r0, r1⟩ := rest_bd (n := n) hd
  obtain ⟨a, ha⟩ : ∃ x, x = n / 18446744073709551616 := ⟨_, rfl⟩
  obtain ⟨b, hb⟩ : ∃ x, x = n % 18446744073709551616 := ⟨_, rfl⟩
  obtain ⟨r, hr⟩ : ∃ x, x = n % d := ⟨_, rfl⟩
  have e1 : wideV n = .agg #[.int .u64 a, .int .u64 b] := by rw [ha, hb]; rfl
  rw [e1]
  rw [← ha, ← hb, ← hr] at HR
  rw [← hr] at r0 r1 ⊢
  clear e1 ha hb hr
  go_enter Try.func69, Try.ntmps69
  go_wp2_with (go_at_call 95; refine (HR.out _).mono ?_; rintro _ w1 ⟨rfl, hb1⟩)
  go_ret
  exact ⟨rfl, bl3 (Below.refl _ _) hb1⟩
set_option maxRecDepth 100000 in
theorem wover_any (n d : Int) (w : World) (h0 : 0 ≤ n) (hd : 0 < d) (hd' : d ≤ 9223372036854775807) (hq : n / 18446744073709551616 < d) (hq2 : n / d ≤ 9223372036854775807) :
    Calls Try.prog 71 #[wideV n, .int .i64 d] w fun e w' => e = .returned (.int .i64 (n / d)) ∧ Below w.heap.size w w' := by
  have HR := Lib.hid (fun w => div64_any (n / 18446744073709551616) (n % 18446744073709551616) d hd (by omega) (by omega) hq (by omega) (by omega) w)
  rw [two_words] at HR
  have r0 := Int.ediv_nonneg h0 (Int.le_of_lt hd)
  obtain ⟨a, ha⟩ : ∃ x, x = n / 18446744073709551616 := ⟨_, rfl⟩
  obtain ⟨b, hb⟩ : ∃ x, x = n % 18446744073709551616 := ⟨_, rfl⟩
  obtain ⟨r, hr⟩ : ∃ x, x = n / d := ⟨_, rfl⟩
  obtain ⟨p, hp⟩ : ∃ x, x = n % d := ⟨_, rfl⟩
  have e1 : wideV n = .agg #[.int .u64 a, .int .u64 b] := by rw [ha, hb]; rfl
  rw [e1]
  rw [← ha, ← hb, ← hr, ← hp] at HR
  rw [← hr] at r0 hq2 ⊢
  clear e1 ha hb hr hp hq
  go_enter Try.func71, Try.ntmps71
  go_wp2_with (go_at_call 96; refine (HR.out _).mono ?_; rintro _ w1 ⟨rfl, hb1⟩)
  go_ret
  exact ⟨rfl, bl3 (Below.refl _ _) hb1⟩
end Go.Proofs.Ytiikkcifdhcejaa
namespace Go.Proofs.Ytiikkcifdhcejaa
open Go.RowKit

/-- a word -/
def wordC (x : Nat) : List Value := [.int .u64 (x : Int)]
theorem flat_word (l : List Nat) : flat wordC l = l.map fun x => Value.int .u64 ((x : Nat) : Int) := flat_one _ l
theorem infoU64 : (Try.prog.info? 97).map (fun i => (i.zero, i.size, i.bytes)) = some (some (.int .u64 0), 1, 8) := by kernel_rfl
theorem uLong : Try.prog.underlying 77 = some (.slice 97) := by kernel_rfl
theorem Sl.word_at {w : World} {B : Nat} {A : Option Addr} {l : List Nat} (h : Sl wordC 1 w B A l) {k : Nat} (hk : k < l.length) : ∃ b o, A = some ⟨b, o, none⟩ ∧ b < B ∧ w.cell? ⟨b, o + k, none⟩ = some (.int .u64 ((l[k] : Nat) : Int)) := by
  obtain ⟨b, o, e, hb, hc⟩ := h.at_ (fun _ => rfl) hk
  exact ⟨b, o, e, hb, by have := hc 0 _ rfl; simpa using this⟩
/-- a number of many words is returned -/
def RetW (l : List Nat) (w : World) (e : Ending) (w' : World) : Prop :=
  ∃ A c, e = .returned (.slice A l.length c) ∧ Sl wordC 1 w' w'.heap.size A l ∧ (∀ ad, A = some ad → w.heap.size ≤ ad.block) ∧ Below w.heap.size w w'
theorem own_ge {w : World} {base : Nat} {e : TypeId} {size : Nat} {v : Value} {n : Nat} {xs : List Value} (h : w.ownsRow base e size v n xs) {g : Nat} (hg : v.ownBlock = some g) : base ≤ g := by
  rcases h.2 with ⟨rfl, h0⟩ | ⟨g', cap, cur, rfl, hb, hg', hn, hc, hs, ht⟩
  · cases hg
  · simp [Value.ownBlock] at hg; omega
/-- one step of a product with a small number -/
theorem by_step {n : Nat} {l : List Nat} {k : Nat} (hk : k < l.length) (hl : ∀ x ∈ l, x < 18446744073709551616) (hn : 0 < n) (hb : n ≤ 4611686018427387904) (s : List Nat × Nat) (hs : s = mulS 18446744073709551616 n (l.take k)) :
    mulS 18446744073709551616 n (l.take (k + 1)) = (s.1 ++ [(l[k] * n + s.2) % 18446744073709551616], (l[k] * n + s.2) / 18446744073709551616) ∧ s.2 < n ∧ l[k] < 18446744073709551616 ∧ l[k] * n / 18446744073709551616 < n ∧ (l[k] * n + s.2) / 18446744073709551616 < n := by
  have e : l.take (k + 1) = l.take k ++ [l[k]] := List.take_succ_eq_append_getElem hk
  have h1 := (mulS_ok (b := 18446744073709551616) (n := n) (by decide) (l.take k) (fun x hx => hl x (List.mem_of_mem_take hx))).car
  have h2 := hl _ (List.getElem_mem hk)
  have h3 : l[k] * n ≤ (18446744073709551616 - 1) * n := Nat.mul_le_mul_right n (by omega)
  rw [e, mulS_snoc, ← hs]
  rw [← hs] at h1
  have h4 : s.2 < n := by omega
  refine ⟨rfl, h4, h2, ?_, ?_⟩
  · exact Nat.div_lt_of_lt_mul (by have : (18446744073709551616 - 1) * n = 18446744073709551616 * n - n := by rw [Nat.sub_mul, Nat.one_mul]
                                   have : n ≤ 18446744073709551616 * n := Nat.le_mul_of_pos_left n (by decide)
                                   omega)
  · exact Nat.div_lt_of_lt_mul (by have : (18446744073709551616 - 1) * n = 18446744073709551616 * n - n := by rw [Nat.sub_mul, Nat.one_mul]
                                   have : n ≤ 18446744073709551616 * n := Nat.le_mul_of_pos_left n (by decide)
                                   omega)
set_option maxRecDepth 100000 in
set_option maxHeartbeats 4000000 in
theorem longBy0_any (A : Option Addr) (c : Nat) (l : List Nat) (w : World) : Calls Try.prog 81 #[.slice A l.length c, .int .i64 0] w (RetW [] w) := by
  go_enter Try.func81, Try.ntmps81
  go_wp2
  go_ret
  exact ⟨none, 0, rfl, sl_nil, fun _ h => (by cases h), by (repeat (first | exact Below.refl _ _ | assumption | (refine Below.alloc ?_ (by first | omega | (simp; omega) | (simp; done)) _) | (refine Below.setCell ?_ (by first | omega | (simp; omega) | (simp; done)) _) | (refine Below.drew ?_) | (refine belowN ?_ _) | (refine Below.trans ?_ (Below.mono ‹Below _ _ _› (by first | omega | (simp; omega) | (simp; done))))))⟩
set_option maxRecDepth 100000 in
set_option maxHeartbeats 4000000 in
theorem longBy_any (A : Option Addr) (c : Nat) (l : List Nat) (n : Nat) (w : World) (hl : l.length ≤ 1000000) (hn : 0 < n) (hn2 : n ≤ 4611686018427387904) (hd : ∀ x ∈ l, x < 18446744073709551616) (hr : Sl wordC 1 w w.heap.size A l) :
    Calls Try.prog 81 #[.slice A l.length c, .int .i64 (n : Int)] w (RetW (mulD 18446744073709551616 n l) w) := by
  obtain ⟨i1, hi1, iy0, iy1, iy2⟩ := info_parts infoU64
  have HR := Lib.hid hr; have HD := Lib.hid hd
  have n0 : ((n : Int) == 0) = false := by simp; omega
  have n1 : (0 : Int) < (n : Int) := by omega
  have n2 : (n : Int) ≤ 4611686018427387904 := by omega
  clear hr hd
  go_enter Try.func81, Try.ntmps81
  go_wp2_with (at_make; refine wpList_make_own _ rfl _ _ 77 rfl w.heap.size 97 i1 (.int .u64 0) 1 uLong hi1 iy0 iy1 .i64 .i64 _ (l.length + 1) rfl rfl (by omega) (by rw [iy2]; omega) (by unfold maxLen; omega) (Nat.le_refl _) ?_; intro w1 hown1 hgr1)
  have hb1 : Below w.heap.size w w1 := (Below.refl _ _).grown hgr1 (Nat.le_refl _) (fun g hg => by cases hg)
  have HO1 := Lib.hid hown1
  obtain ⟨v1, hv1⟩ : ∃ v, v = Value.slice (some ⟨w.heap.size, 0, none⟩) 0 (l.length + 1) := ⟨_, rfl⟩
  rw [← hv1] at HO1 ⊢
  clear hown1 hgr1 hv1
  go_wp2
  go_loopw [5, 6, 20] (fun o cy i wr => ∃ k : Nat, k ≤ l.length ∧ i = .int .i64 k ∧ cy = .int .u64 (((mulS 18446744073709551616 n (l.take k)).2 : Nat) : Int) ∧ Hid (wr.ownsRow w.heap.size 97 1 o (mulS 18446744073709551616 n (l.take k)).1.length (flat wordC (mulS 18446744073709551616 n (l.take k)).1)) ∧ Below w.heap.size w wr) (fun _ _ i _ => l.length - (intOf i).toNat)
  case atStart => exact ⟨0, by omega, rfl, rfl, HO1.out, hb1⟩
  case round =>
    obtain ⟨k, hk, rfl, rfl, HO, hb⟩ := hrel
    by_cases hlt : k < l.length
    · obtain ⟨b, o, rfl, hbb, hc⟩ := (HR.out.below hb).word_at hlt
      obtain ⟨s, hs⟩ : ∃ s, s = mulS 18446744073709551616 n (l.take k) := ⟨_, rfl⟩
      obtain ⟨h1, h2, h3, h4, h5⟩ := by_step hlt HD.out hn hn2 s hs
      have hlen : s.1.length = k := by rw [hs]; exact (mulS_ok (b := 18446744073709551616) (n := n) (by decide) (l.take k) (fun x hx => HD.out x (List.mem_of_mem_take hx))).len.trans (by simp; omega)
      rw [← hs] at HO ⊢
      obtain ⟨x, hx⟩ : ∃ x, x = l[k] := ⟨_, rfl⟩
      rw [← hx] at hc h1 h3 h4 h5
      obtain ⟨L, cy⟩ := s
      simp only at h1 h2 h5 hlen HO ⊢
      have HS := Lib.hid h1
      have HM := Lib.hid (fun w => mul64_any x n (by omega) (by omega) w)
      obtain ⟨t, ht⟩ : ∃ t, t = x * n := ⟨_, rfl⟩
      rw [← ht] at HS HM h4 h5
      have HA := Lib.hid (fun w => add64_run ((t % 18446744073709551616 : Nat) : Int) (cy : Int) 0 (by omega) (by omega) (by omega) (by omega) (by omega) (by omega) w)
      obtain ⟨p, hp⟩ : ∃ p, p = t / 18446744073709551616 := ⟨_, rfl⟩
      obtain ⟨q, hq⟩ : ∃ q, q = t % 18446744073709551616 := ⟨_, rfl⟩
      rw [← hp] at HM h4
      rw [← hq] at HM HA
      have e1 : (((q : Int) + (cy : Int) + 0) % 18446744073709551616) = (((t + cy) % 18446744073709551616 : Nat) : Int) := by omega
      have e2 : (p : Int) + (((q : Int) + (cy : Int) + 0) / 18446744073709551616) = (((t + cy) / 18446744073709551616 : Nat) : Int) := by omega
      rw [e1] at HA
      obtain ⟨r, hr⟩ : ∃ r, r = (t + cy) % 18446744073709551616 := ⟨_, rfl⟩
      obtain ⟨u, hu⟩ : ∃ u, u = (t + cy) / 18446744073709551616 := ⟨_, rfl⟩
      obtain ⟨d, hd⟩ : ∃ d, d = ((q : Int) + (cy : Int) + 0) / 18446744073709551616 := ⟨_, rfl⟩
      rw [← hr] at HA HS
      rw [← hu] at HS h5 e2
      rw [← hd] at HA e2
      have p0 : (0 : Int) ≤ (p : Int) := by omega
      have d0 : 0 ≤ d := by omega
      have w1 : IntKind.u64.wrap ((p : Int) + d) = (u : Int) := by rw [e2]; exact wrapNN _ (by omega)
      have w2 : IntKind.u64.wrap (u : Int) = (u : Int) := wrapNN _ (by omega)
      have w3 : IntKind.u64.wrap (n : Int) = (n : Int) := wrapNN _ (by omega)
      have HC5 : Hid (∀ (i : Nat) (u : Value), [Value.int .u64 ((r : Nat) : Int)][i]? = some u → (wr.alloc (.cells #[.int .u64 ((r : Nat) : Int)] 97)).cell? ((⟨wr.heap.size, 0, none⟩ : Addr).add i) = some u) := (fun i u hu => (by rw [Go.WideShapes.add_plain, Nat.zero_add, (Blk.new wr _ _).cell i, ← hu]; simp))
      have HL := Lib.hid hlen
      have hbz := hb.size
      have lb : L.length + 1 ≤ 1000000 := by omega
      have HT := Lib.hid (List.take_succ_eq_append_getElem hlt)
      clear hs hlen h1 h2 h3 h4 h5 hx ht hp hq hr hu hd e1 e2
      go_wp2_with (first | (go_at_call 90; refine (HM.out _).mono ?_; rintro _ _ ⟨rfl, rfl⟩) | (simp only [HA.out]) | (at_builtin; refine wpList_append_own _ rfl _ _ 77 rfl w.heap.size 97 i1 (.int .u64 0) 1 8 uLong hi1 iy0 iy1 iy2 rfl (by decide) _ _ _ rfl (HO.out.alloc _) ⟨wr.heap.size, 0, none⟩ 1 1 [.int .u64 ((r : Nat) : Int)] rfl rfl HC5.out (by simp [Value.oneCell']) (by unfold maxLen; omega) (by omega) (by simp; omega) ?_; intro v' w5 hown5 hgrow _) | fail)
      have hb5 : Below w.heap.size w w5 := (bla hb).grown hgrow (by simp; omega) (fun g hg => own_ge HO.out hg)
      go_wp2
      go_roundw
      case rel => exact ⟨k + 1, by omega, by go_num, by rw [HS.out], by
        rw [HS.out]
        show World.ownsRow _ _ _ _ _ _ _
        simpa [flat, wordC] using hown5, hb5⟩
      case measure => simp [intOf]; omega
    · obtain rfl : k = l.length := by omega
      rw [List.take_length] at HO ⊢
      obtain ⟨s, hs⟩ : ∃ s, s = mulS 18446744073709551616 n l := ⟨_, rfl⟩
      have HM : Hid (mulD 18446744073709551616 n l = if s.2 = 0 then s.1 else s.1 ++ [s.2]) := (by show _ = _; rw [hs]; rfl : _)
      have hok := mulS_ok (b := 18446744073709551616) (n := n) (by decide) l (fun x hx => HD.out x hx)
      rw [← hs] at HO hok ⊢
      have hlen := hok.len
      have hcar := hok.car
      clear hs hok
      obtain ⟨L, cy⟩ := s
      simp only at HO hlen hcar HM ⊢
      by_cases h0 : cy = 0
      · subst h0
        rw [if_pos rfl] at HM
        clear hlen hcar
        go_wp2
        go_ret
        obtain ⟨A', c', hv, hsl⟩ := Sl.of_own HO.out
        exact ⟨A', c', by rw [HM.out, hv]; rfl, by rw [HM.out]; exact hsl, fun ad h => own_ge HO.out (by rw [hv, h]; rfl), hb⟩
      · rw [if_neg h0] at HM
        have HC5 : Hid (∀ (i : Nat) (u : Value), [Value.int .u64 ((cy : Nat) : Int)][i]? = some u → (wr.alloc (.cells #[.int .u64 ((cy : Nat) : Int)] 97)).cell? ((⟨wr.heap.size, 0, none⟩ : Addr).add i) = some u) := (fun i u hu => (by rw [Go.WideShapes.add_plain, Nat.zero_add, (Blk.new wr _ _).cell i, ← hu]; simp))
        have hbz := hb.size
        have lb : L.length + 1 ≤ 1000001 := by omega
        have d0 : decide ((0 : Int) < (cy : Int)) = true := by simp; omega
        have d0' : decide (0 < cy) = true := by simp; omega
        clear hlen hcar h0
        go_wp2_with (first | (at_builtin; refine wpList_append_own _ rfl _ _ 77 rfl w.heap.size 97 i1 (.int .u64 0) 1 8 uLong hi1 iy0 iy1 iy2 rfl (by decide) _ _ _ rfl (HO.out.alloc _) ⟨wr.heap.size, 0, none⟩ 1 1 [.int .u64 ((cy : Nat) : Int)] rfl rfl HC5.out (by simp [Value.oneCell']) (by unfold maxLen; omega) (by omega) (by simp; omega) ?_; intro v' w5 hown5 hgrow _) | fail)
        have hb5 : Below w.heap.size w w5 := (bla hb).grown hgrow (by simp; omega) (fun g hg => own_ge HO.out hg)
        go_wp2
        go_ret
        have h9 : w5.ownsRow w.heap.size 97 1 v' (L ++ [cy]).length (flat wordC (L ++ [cy])) := by simpa [flat, wordC] using hown5
        obtain ⟨A', c', hv, hsl⟩ := Sl.of_own h9
        exact ⟨A', c', by rw [HM.out, hv]; rfl, by rw [HM.out]; exact hsl, fun ad h => own_ge h9 (by rw [hv, h]; rfl), hb5⟩
end Go.Proofs.Ytiikkcifdhcejaa
namespace Go.Proofs.Ytiikkcifdhcejaa
open Go.RowKit

/-- block b holds just these words -/
abbrev Wrd (W : World) (b : Nat) (l : List Nat) : Prop := Blk W b (l.map fun x => Value.int .u64 ((x : Nat) : Int)).toArray 97
section
variable {W : World} {b : Nat} {l : List Nat}
theorem Wrd.at_ (h : Wrd W b l) {j : Nat} (hj : j < l.length) : W.cell? ⟨b, j, none⟩ = some (.int .u64 ((l.getD j 0 : Nat) : Int)) := by
  rw [Blk.cell h]; simp [hj]
theorem Wrd.put (h : Wrd W b l) (j : Nat) (x : Nat) : Wrd (W.setCell ⟨b, j, none⟩ (.int .u64 (x : Int))) b (l.set j x) := by
  have := Blk.set h j (.int .u64 (x : Int))
  rw [List.setIfInBounds_toArray, ← List.map_set (f := fun x : Nat => Value.int .u64 ((x : Nat) : Int))] at this
  exact this
theorem Wrd.sl_take (h : Wrd W b l) {k : Nat} (hk : k ≤ l.length) : Sl wordC 1 W W.heap.size (some ⟨b, 0, none⟩) (l.take k) := by
  refine ⟨by rw [flat_word]; simp, fun _ => ⟨b, 0, rfl, Blk.lt h, fun j u hu => ?_⟩⟩
  rw [flat_word, List.getElem?_map, List.getElem?_take] at hu
  rw [Nat.zero_add, Blk.cell h]
  split at hu
  · simpa using hu
  · simp at hu
end
theorem wpList_make_wrd {P : Program} (w : World) {ops : Array Oper} {rest : List Oper} {o : Oper} {a : Act} {Q : Exit → Act → World → Prop}
    (hg : o.guard = none) (l c : Operand) (hop : o.op = Op.makeSlice 77 l c) (i : TypeInfo) (h1 : P.underlying 77 = some (.slice 97)) (h2 : P.info? 97 = some i) (h3 : i.zero = some (.int .u64 0)) (h4 : i.size = 1) (h5 : i.bytes = 8)
    (kl kc : IntKind) (L C : Int) (n : Nat) (hl : a.eval l = .int kl L) (hc : a.eval c = .int kc C) (hL : L = (n : Int)) (hC : C = (n : Int)) (b3 : n ≤ 1000000000)
    (hK : ∀ w', Wrd w' w.heap.size (List.replicate n 0) → Below w.heap.size w w' → Hid (wpList P ops Q rest (a.put o.dst (.slice (some ⟨w.heap.size, 0, none⟩) n n)) w')) :
    wpList P ops Q (o :: rest) a w := by
  refine wpList_make_full w hg l c 77 hop w.heap.size 97 i (.int .u64 0) 1 h1 h2 h3 h4 kl kc L C n hl hc hL hC (by rw [h5]; omega) (by unfold maxLen; omega) (Nat.le_refl _) ?_
  intro w' how hgr
  refine (hK w' ?_ ((Below.refl _ _).grown hgr (Nat.le_refl _) (fun g hg => by cases hg))).out
  rw [toList_madeCells_one' _ _ rfl] at how
  rcases how.2 with ⟨h', _⟩ | ⟨g', cap', cur, h', hb, hg, hnc, hcm, hcs, htake⟩
  · simp at h'
  · simp only [Value.slice.injEq, Option.some.injEq, Addr.mk.injEq, and_true, true_and] at h'
    obtain ⟨rfl, rfl⟩ := h'
    have : cur = (List.replicate n (Value.int .u64 0)).toArray := by
      rw [← htake, List.take_of_length_le (by simp [hcs])]
    show w'.heap[w.heap.size]? = some (.cells ((List.replicate n 0).map fun x => Value.int .u64 ((x : Nat) : Int)).toArray 97 (0, 0))
    rw [List.map_replicate]; simp only [Int.natCast_zero] ; rw [← this]; exact hg
/-- a number of many words is returned: no zeros at the end -/
def RetN (n len : Nat) (w : World) (e : Ending) (w' : World) : Prop := ∃ L, Rep 18446744073709551616 L n ∧ L.length ≤ len ∧ RetW L w e w'
/-- the arithmetic of one step -/
theorem tim_arith {t o c p q r1 : Nat} {d1 d2 : Int} (ho : o < 18446744073709551616) (hc : c < 18446744073709551616) (hv : t + o + c < 18446744073709551616 * 18446744073709551616) (hp : p = t / 18446744073709551616) (hq : q = t % 18446744073709551616)
    (hr1 : r1 = (q + o) % 18446744073709551616) (hd1 : d1 = ((q : Int) + (o : Int) + 0) / 18446744073709551616) (hd2 : d2 = ((r1 : Int) + (c : Int) + 0) / 18446744073709551616) :
    p < 18446744073709551616 ∧ q < 18446744073709551616 ∧ r1 < 18446744073709551616 ∧ ((q : Int) + (o : Int) + 0) % 18446744073709551616 = (r1 : Int) ∧ ((r1 : Int) + (c : Int) + 0) % 18446744073709551616 = (((t + o + c) % 18446744073709551616 : Nat) : Int) ∧
    0 ≤ d1 ∧ 0 ≤ d2 ∧ (p : Int) + d1 < 18446744073709551616 ∧ (p : Int) + d1 + d2 = (((t + o + c) / 18446744073709551616 : Nat) : Int) ∧ (t + o + c) / 18446744073709551616 < 18446744073709551616 := by
  subst hp hq hr1 hd1 hd2
  omega
set_option maxRecDepth 100000 in
set_option maxHeartbeats 4000000 in
theorem longTimes_any (A : Option Addr) (c : Nat) (l : List Nat) (A2 : Option Addr) (c2 : Nat) (m : List Nat) (x y : Nat) (w : World) (hl : l.length ≤ 1000000) (hm : m.length ≤ 1000000) (hx : Rep 18446744073709551616 l x) (hy : Rep 18446744073709551616 m y) (hr : Sl wordC 1 w w.heap.size A l) (hr2 : Sl wordC 1 w w.heap.size A2 m) :
    Calls Try.prog 74 #[.slice A l.length c, .slice A2 m.length c2] w (RetN (x * y) (l.length + m.length) w) := by
  obtain ⟨i1, hi1, iy0, iy1, iy2⟩ := info_parts infoU64
  have HR := Lib.hid hr; have HR2 := Lib.hid hr2
  have HX := Lib.hid hx; have HY := Lib.hid hy
  clear hr hr2 hx hy
  go_enter Try.func74, Try.ntmps74
  go_wp2_with (first | (at_make; refine wpList_make_wrd _ rfl _ _ rfl i1 uLong hi1 iy0 iy1 iy2 .i64 .i64 _ _ (l.length + m.length) rfl rfl (by omega) (by omega) (by omega) ?_; intro w1 ha1 hb1) | fail)
  have hst := Lib.hid (TimOk.start (b := 18446744073709551616) (by decide) l m)
  obtain ⟨bo, hbo⟩ : ∃ n, n = w.heap.size := ⟨_, rfl⟩
  rw [← hbo] at ha1 ⊢
  have hbw : w.heap.size ≤ bo := by omega
  have HA1 := Lib.hid ha1
  clear ha1 hbo
  refine Lib.hid ?_
  go_wp2
  go_loopw [23] (fun iv wr => ∃ i : Nat, i ≤ l.length ∧ iv = .int .i64 i ∧ (∃ o, Hid (Wrd wr bo o) ∧ Hid (TimOk 18446744073709551616 l m i 0 o 0)) ∧ Below w.heap.size w wr) (fun iv _ => l.length - (intOf iv).toNat)
  case atStart => exact ⟨0, by omega, rfl, ⟨_, HA1, hst⟩, hb1⟩
  case round =>
    obtain ⟨i, hi, rfl, ⟨o, HO, HT⟩, hb⟩ := hrel
    by_cases hlt : i < l.length
    · obtain ⟨b, f, rfl, hbb, hc⟩ := (HR.out.below hb).word_at hlt
      have hxi : l.getD i 0 = l[i] := by simp [hlt]
      have hxd := HX.out.dig _ (List.getElem_mem hlt)
      obtain ⟨xi, hx⟩ : ∃ xi, xi = l[i] := ⟨_, rfl⟩
      rw [← hx] at hc hxi hxd
      have HXI := Lib.hid hxi
      have i0 : (0 : Int) ≤ (i : Int) := by omega
      have i1 : (i : Int) < (l.length : Int) := by omega
      have i2 : (i : Int) ≤ 1000000 := by omega
      clear hx hxi
      go_wp2
      rename World => wo
      go_loopw [8, 30] (fun cv kv wr => ∃ k : Nat, k ≤ m.length ∧ kv = .int .i64 k ∧ (∃ o cy, cv = .int .u64 ((cy : Nat) : Int) ∧ Hid (Wrd wr bo o) ∧ Hid (TimOk 18446744073709551616 l m i k o cy)) ∧ Below w.heap.size w wr) (fun _ kv _ => m.length - (intOf kv).toNat)
      case atStart => exact ⟨0, by omega, rfl, ⟨_, 0, rfl, HO, HT⟩, hb⟩
      case round =>
        obtain ⟨k, hk, rfl, ⟨o, cy, rfl, HO, HT⟩, hb⟩ := hrel
        by_cases hlk : k < m.length
        · obtain ⟨b2, f2, rfl, hbb2, hc2⟩ := (HR2.out.below hb).word_at hlk
          have hyk : m.getD k 0 = m[k] := by simp [hlk]
          have hyd := HY.out.dig _ (List.getElem_mem hlk)
          obtain ⟨h1, h2⟩ := HT.out.step HX.out.dig HY.out.dig hlt hlk
          have hol := HT.out.len
          have hcd := HT.out.car
          have hod := getD_lt HT.out.dig (show i + k < o.length by omega)
          have ca := HO.out.at_ (show i + k < o.length by omega)
          have fa := Blk.free HO.out (i + k)
          rw [HXI.out, hyk] at h1 h2
          obtain ⟨yk, hy⟩ : ∃ yk, yk = m[k] := ⟨_, rfl⟩
          rw [← hy] at hc2 hyd h1 h2
          obtain ⟨ov, hov⟩ : ∃ ov, ov = o.getD (i + k) 0 := ⟨_, rfl⟩
          rw [← hov] at ca hod h1 h2
          have HM := Lib.hid (fun w => mul64_any xi yk (by omega) (by omega) w)
          obtain ⟨t, ht⟩ : ∃ t, t = xi * yk := ⟨_, rfl⟩
          rw [← ht] at HM h1 h2
          obtain ⟨p, hp⟩ : ∃ p, p = t / 18446744073709551616 := ⟨_, rfl⟩
          obtain ⟨q, hq⟩ : ∃ q, q = t % 18446744073709551616 := ⟨_, rfl⟩
          rw [← hp, ← hq] at HM
          obtain ⟨r1, hr1⟩ : ∃ r1, r1 = (q + ov) % 18446744073709551616 := ⟨_, rfl⟩
          obtain ⟨d1, hd1⟩ : ∃ d1, d1 = ((q : Int) + (ov : Int) + 0) / 18446744073709551616 := ⟨_, rfl⟩
          obtain ⟨d2, hd2⟩ : ∃ d2, d2 = ((r1 : Int) + (cy : Int) + 0) / 18446744073709551616 := ⟨_, rfl⟩
          obtain ⟨a1, a2, a3, a4, a5, a6, a7, a8, a9, a10⟩ := tim_arith hod hcd h1 hp hq hr1 hd1 hd2
          have HA1 := Lib.hid (fun w => add64_run (q : Int) (ov : Int) 0 (by omega) (by omega) (by omega) (by omega) (by omega) (by omega) w)
          have HA2 := Lib.hid (fun w => add64_run (r1 : Int) (cy : Int) 0 (by omega) (by omega) (by omega) (by omega) (by omega) (by omega) w)
          rw [a4, ← hd1] at HA1
          rw [a5, ← hd2] at HA2
          obtain ⟨z, hz⟩ : ∃ z, z = (t + ov + cy) % 18446744073709551616 := ⟨_, rfl⟩
          obtain ⟨u, hu⟩ : ∃ u, u = (t + ov + cy) / 18446744073709551616 := ⟨_, rfl⟩
          rw [← hz] at HA2 h2
          rw [← hu] at h2 a9 a10
          have w0 : IntKind.u64.wrap ((p : Int) + d1) = (p : Int) + d1 := u64_wrap (by omega) a8
          have w1 : IntKind.u64.wrap ((p : Int) + d1 + d2) = (u : Int) := by rw [a9]; exact wrapNN _ a10
          have w2 : IntKind.u64.wrap (u : Int) = (u : Int) := wrapNN _ a10
          have HT2 := Lib.hid h2
          have k0 : (0 : Int) ≤ (k : Int) := by omega
          have k1 : (k : Int) < (m.length : Int) := by omega
          have k2 : (k : Int) ≤ 1000000 := by omega
          have ik : (i : Int) + (k : Int) < (l.length : Int) + (m.length : Int) := by omega
          clear h1 h2 hol hcd hod hyk hy hov ht hp hq hr1 hd1 hd2 a1 a2 a3 a4 a5 a8 a9 a10 hz hu
          go_wp2_with (first | (go_at_call 90; refine (HM.out _).mono ?_; rintro _ _ ⟨rfl, rfl⟩) | (simp only [HA1.out]) | (simp only [HA2.out]) | fail)
          refine ⟨⟨k + 1, by omega, by go_num, ⟨_, u, rfl, HO.out.put (i + k) z, HT2.out⟩, hb.setCell (p := ⟨bo, i + k, none⟩) hbw _⟩, ?_⟩
          simp [intOf]; omega
        · obtain rfl : k = m.length := by omega
          have hol := HT.out.len
          have HT2 := Lib.hid (HT.out.row hlt)
          have ca := HO.out.at_ (show i + m.length < o.length by omega)
          have fa := Blk.free HO.out (i + m.length)
          obtain ⟨ov, hov⟩ : ∃ ov, ov = o.getD (i + m.length) 0 := ⟨_, rfl⟩
          rw [← hov] at ca
          have ik : (i : Int) + (m.length : Int) < (l.length : Int) + (m.length : Int) := by omega
          clear hol hov
          go_wp2
          refine ⟨⟨i + 1, by omega, by go_num, ⟨_, HO.out.put (i + m.length) cy, HT2.out⟩, hb.setCell (p := ⟨bo, i + m.length, none⟩) hbw _⟩, ?_⟩
          simp [intOf]; omega
    · obtain rfl : i = l.length := by omega
      have hol := HT.out.len
      have hTO : TopOk 18446744073709551616 o o.length (x * y) := ⟨Nat.le_refl _, HT.out.dig, by rw [List.take_length]; exact HT.out.end_ HX.out.val HY.out.val rfl⟩
      rw [hol] at hTO
      have HTO := Lib.hid hTO
      have HOL := Lib.hid hol
      clear hTO hol HT
      obtain ⟨N, hN⟩ : ∃ N, N = l.length + m.length := ⟨_, rfl⟩
      rw [← hN] at HTO HOL
      have hNb : N ≤ 2000000 := by omega
      have hNI : ((l.length + m.length : Nat) : Int) = (N : Int) := by rw [hN]
      have HNE := Lib.hid hN
      clear hN
      go_wp2
      rename World => wo
      go_loopw [5] (fun v wr => ∃ k : Nat, k ≤ N ∧ v = .slice (some ⟨bo, 0, none⟩) k N ∧ Hid (TopOk 18446744073709551616 o k (x * y)) ∧ Hid (Wrd wr bo o) ∧ Below w.heap.size w wr) (fun v _ => match v with | .slice _ n _ => n | _ => 0)
      case atStart => exact ⟨N, Nat.le_refl _, by rw [HNE.out], HTO.out, HO.out, hb⟩
      case round =>
        obtain ⟨k, hk, rfl, HT, HO, hb⟩ := hrel
        cases k with
        | zero =>
          have HRp := Lib.hid (TopOk.rep0 HT.out)
          have HS := Lib.hid (HO.out.sl_take (k := 0) (by omega))
          go_wp2
          go_ret
          exact ⟨_, HRp.out, by simp, _, N, by simp, HS.out, fun ad h => (by cases h; exact hbw), hb⟩
        | succ k =>
          have hkl : k < o.length := by rw [HOL.out]; omega
          have ca := HO.out.at_ hkl
          have HL := Lib.hid (fun h => HT.out.less h)
          have HP := Lib.hid (fun h => HT.out.rep h)
          have HS := Lib.hid (HO.out.sl_take (k := k + 1) (by omega))
          obtain ⟨ov, hov⟩ : ∃ ov, ov = o.getD k 0 := ⟨_, rfl⟩
          rw [← hov] at ca HL HP
          have kk0 : (0 : Int) < (k : Int) + 1 := by omega
          have kk1 : decide ((0 : Int) < (k : Int) + 1) = true := decide_eq_true kk0
          have kk2 : ((k + 1 : Nat) : Int) = (k : Int) + 1 := by omega
          clear hov
          by_cases h0 : ov = 0
          · have HL2 := Lib.hid (HL.out h0)
            subst h0
            clear HL HP
            go_wp2
            refine ⟨⟨k, by omega, rfl, HL2.out, HO.out, hb⟩, ?_⟩
            simp
          · have HP2 := Lib.hid (HP.out h0)
            have b0 : ((ov : Int) == 0) = false := by simp; omega
            have hlen : (o.take (k + 1)).length = k + 1 := by rw [List.length_take]; omega
            have HLN := Lib.hid hlen
            clear HL HP h0 hlen
            go_wp2
            go_ret
            exact ⟨_, HP2.out, by rw [HLN.out, ← HNE.out]; exact hk, _, _, by rw [HLN.out]; rfl, HS.out, fun ad h => (by cases h; exact hbw), hb⟩
end Go.Proofs.Ytiikkcifdhcejaa

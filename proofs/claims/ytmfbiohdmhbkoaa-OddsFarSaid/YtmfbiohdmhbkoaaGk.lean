/- odds: Repeat. -/
import Derived.Test.YtmfbiohdmhbkoaaGj
import Derived.Test.YtmfbiohdmhbkoaaPp
namespace Go.Proofs.Ytmfbiohdmhbkoaa
open Go.RowKit

theorem and_one_i64 (x : Nat) (hx : x < 9223372036854775808) : bits BinOp.and IntKind.i64 (x : Int) 1 = ((x % 2 : Nat) : Int) := by
  have hx2 : x &&& 1 < 2 ^ 63 := Nat.and_lt_two_pow _ (by omega)
  show IntKind.i64.wrap ((BitVec.ofInt 64 (x : Int) &&& BitVec.ofInt 64 ((1 : Nat) : Int)).toNat : Int) = _
  rw [BitVec.toNat_and, BitVec.ofInt_natCast, BitVec.ofInt_natCast, BitVec.toNat_ofNat, BitVec.toNat_ofNat, Nat.mod_eq_of_lt (by omega), Nat.mod_eq_of_lt (by omega), Nat.and_one_is_mod, IntKind.wrap_i64]
  omega
theorem repR_err {w : List Int} {t : Int} (h : errW w ≠ 0) : repR w t = ([], errW w) := by unfold repR; rw [if_pos h]
theorem repR_range {w : List Int} {t : Int} (h : errW w = 0) (ht : t < 0 ∨ 64 < t) : repR w t = ([], 3) := by unfold repR; rw [if_neg (by simpa using h), if_pos ht]
theorem repR_long {w : List Int} {t : Int} (h : errW w = 0) (ht : ¬ (t < 0 ∨ 64 < t)) (hl : 4096 < t * ((w.length : Int) - 1) + 1) : repR w t = ([], 5) := by unfold repR; rw [if_neg (by simpa using h), if_neg ht, if_pos hl]
theorem repR_over {w : List Int} {t : Int} (h : errW w = 0) (ht : ¬ (t < 0 ∨ 64 < t)) (hl : ¬ 4096 < t * ((w.length : Int) - 1) + 1) (ho : 1000000000000000 < sumL w ^ t.toNat) : repR w t = ([], 10) := by
  unfold repR; rw [if_neg (by simpa using h), if_neg ht, if_neg hl, if_pos ho]
theorem repR_ok {w : List Int} {t : Int} (h : errW w = 0) (ht : ¬ (t < 0 ∨ 64 < t)) (hl : ¬ 4096 < t * ((w.length : Int) - 1) + 1) (ho : ¬ 1000000000000000 < sumL w ^ t.toNat) : repR w t = (pwL w t.toNat, 0) := by
  unfold repR; rw [if_neg (by simpa using h), if_neg ht, if_neg hl, if_neg ho]
theorem retSl_eq {L M : List Int} {er : Int} {w : World} {e : Ending} {w' : World} (h : RetSlE L er w e w') (hL : L = M) : RetSlE M er w e w' := hL ▸ h
set_option maxRecDepth 100000 in
set_option maxHeartbeats 8000000 in
theorem repeat_any (A : Option Addr) (c : Nat) (l : List Int) (t : Int) (w : World) (hm : l.length ≤ 1000000000) (hz : A = none → c = 0) (hr : Sl intCell 1 w w.heap.size A l) :
    Calls Try.prog 17 #[.slice A l.length c, .int .i64 t] w (RetSlE (repR l t).1 (repR l t).2 w) := by
  have HC := Lib.hid (check_any A c l w hm hr)
  by_cases he : errW l = 0
  · have ok := errW_zero.1 he
    have HE := Lib.hid he
    by_cases ht : t < 0 ∨ 64 < t
    · have HT := Lib.hid (repR_range he ht)
      clear hr he ok
      rcases ht with h | h
      · go_enter Try.func17, Try.ntmps17
        go_wp2_with (go_at_call 31; refine HC.out.mono ?_; rintro _ _ ⟨rfl, rfl⟩; rw [HE.out])
        go_ret2
        rw [HT.out]
        exact retSlE_nil (Below.refl _ _)
      · have d1 : decide (t < 0) = false := by simp; omega
        go_enter Try.func17, Try.ntmps17
        go_wp2_with (go_at_call 31; refine HC.out.mono ?_; rintro _ _ ⟨rfl, rfl⟩; rw [HE.out])
        go_ret2
        rw [HT.out]
        exact retSlE_nil (Below.refl _ _)
    · have t0 : 0 ≤ t := by omega
      have t1 : t ≤ 64 := by omega
      obtain ⟨T, rfl⟩ := Int.eq_ofNat_of_zero_le t0
      have hl0 := ok.pos_len; have hl1 := ok.len
      obtain ⟨d, hd⟩ : ∃ d, l.length = d + 1 := ⟨l.length - 1, by omega⟩
      have hmul : (T : Int) * ((l.length : Int) - 1) = ((T * d : Nat) : Int) := by rw [hd]; rw [show ((d + 1 : Nat) : Int) - 1 = (d : Int) by omega, mulNN]
      have hTd : T * d ≤ 64 * 4096 := Nat.mul_le_mul (by omega) (by omega)
      have HD := Lib.hid hd
      have HM := Lib.hid hmul
      have hl2 : ((l.length : Nat) : Int) - 1 = (d : Int) := by omega
      have d1 : decide ((T : Int) < 0) = false := by simp
      have d2 : decide ((64 : Int) < (T : Int)) = false := by simp; omega
      by_cases hlong : 4096 < (T : Int) * ((l.length : Int) - 1) + 1
      · have HT := Lib.hid (repR_long he ht hlong)
        rw [hmul] at hlong
        have m0 : (0 : Int) ≤ (T : Int) * ((l.length : Int) - 1) := by rw [hmul]; omega
        have m1 : (T : Int) * ((l.length : Int) - 1) ≤ 262144 := by rw [hmul]; omega
        have m2 : 4096 < (T : Int) * ((l.length : Int) - 1) + 1 := by rw [hmul]; exact hlong
        clear hr he ok ht hd hmul hl2 hlong hTd
        go_enter Try.func17, Try.ntmps17
        go_wp2_with (go_at_call 31; refine HC.out.mono ?_; rintro _ _ ⟨rfl, rfl⟩; rw [HE.out])
        go_ret2
        rw [HT.out]
        exact retSlE_nil (Below.refl _ _)
      · have m0 : (0 : Int) ≤ (T : Int) * ((l.length : Int) - 1) := by rw [hmul]; omega
        have m1 : (T : Int) * ((l.length : Int) - 1) ≤ 262144 := by rw [hmul]; omega
        have m2 : decide (4096 < (T : Int) * ((l.length : Int) - 1) + 1) = false := by simpa using hlong
        have hs := ok.pos; have hs' := ok.le
        have HS := Lib.hid (sum_any A c l w (by omega) ok.nn (by omega) hr)
        have hT4 : T * (l.length - 1) + 1 ≤ 4096 := by rw [hmul] at hlong; rw [hd, Nat.add_sub_cancel]; omega
        have HT4 := Lib.hid hT4
        have HOV := Lib.hid (fun h => repR_over he ht hlong h)
        have HOK' := Lib.hid (fun h => repR_ok he ht hlong h)
        have HR := Lib.hid hr
        have HNN := Lib.hid ok.nn
        have HZ := Lib.hid hz
        rw [Int.toNat_natCast] at HOV HOK'
        clear hr he ok ht hd hmul hl2 hlong hTd hT4 hz
        obtain ⟨s, hss⟩ : ∃ s, s = sumL l := ⟨_, rfl⟩
        have HSS := Lib.hid hss
        rw [← hss] at HS hs hs' HOV HOK'
        clear hss
        go_enter Try.func17, Try.ntmps17
        go_wp2_with (go_at_call 31; refine HC.out.mono ?_; rintro _ _ ⟨rfl, rfl⟩; rw [HE.out])
        go_loop [7, 32] (fun v i => ∃ k : Nat, k ≤ T ∧ i = .int .i64 k ∧ v = .int .i64 (s ^ k) ∧ 1 ≤ s ^ k ∧ s ^ k ≤ 1000000000000000) (fun _ i => T - (intOf i).toNat)
        case atStart => exact ⟨0, by omega, rfl, by rw [Int.pow_zero], by rw [Int.pow_zero]; omega, by rw [Int.pow_zero]; omega⟩
        case round =>
          obtain ⟨k, hk, rfl, rfl, k0, k1⟩ := hrel
          by_cases hlt : k < T
          · have HP : Hid (s ^ (k + 1) = s ^ k * s) := (Int.pow_succ s k : s ^ (k + 1) = s ^ k * s)
            have HSM := Lib.hid (fun W => small_any (s ^ k) s W (by omega) (by omega) (by omega) (by omega))
            by_cases hsm : s ^ k * s ≤ 1000000000000000
            · have y0 : 1 * 1 ≤ s ^ k * s := Int.mul_le_mul k0 hs (by omega) (by omega)
              rw [smallB_true hsm] at HSM
              obtain ⟨q, hq⟩ : ∃ q, q = s ^ k := ⟨_, rfl⟩
              rw [← hq] at HP HSM hsm y0 k0 k1 ⊢
              clear hq
              go_wp2_with (first | (go_at_call 57; refine HS.out.mono ?_; rintro _ _ ⟨rfl, rfl⟩) | (go_at_call 56; refine (HSM.out _).mono ?_; rintro _ _ ⟨rfl, rfl⟩))
              go_round
              case rel => exact ⟨k + 1, by omega, by go_num, by rw [HP.out], by rw [HP.out]; omega, by rw [HP.out]; omega⟩
              case measure => simp [intOf]; omega
            · have HT := Lib.hid (HOV.out (pow_great hs hlt (by omega)))
              rw [smallB_false hsm] at HSM
              obtain ⟨q, hq⟩ : ∃ q, q = s ^ k := ⟨_, rfl⟩
              rw [← hq] at HSM k0 k1 ⊢
              clear hq hsm
              go_wp2_with (first | (go_at_call 57; refine HS.out.mono ?_; rintro _ _ ⟨rfl, rfl⟩) | (go_at_call 56; refine (HSM.out _).mono ?_; rintro _ _ ⟨rfl, rfl⟩))
              go_ret2
              rw [HT.out]
              exact retSlE_nil (Below.refl _ _)
          · obtain rfl : k = T := by omega
            have HT := Lib.hid (HOK'.out (by omega))
            have HB : Hid (sumL l ^ k ≤ 1000000000000000) := (by rw [← HSS.out]; exact k1 : sumL l ^ k ≤ 1000000000000000)
            obtain ⟨q, hq⟩ : ∃ q, q = s ^ k := ⟨_, rfl⟩
            rw [← hq] at k0 k1 ⊢
            clear hq
            go_wp2_with fail
            have HP0 := Lib.hid (Pow.zero l); have HP1 := Lib.hid (Pow.one HNN.out hl0)
            have hal : Below w.heap.size w (w.alloc (.cells #[.int .i64 1] 3)) := (Below.refl _ _).alloc (Nat.le_refl _) _
            have hS0 : Hid (Sl intCell 1 (w.alloc (.cells #[.int .i64 1] 3)) (w.alloc (.cells #[.int .i64 1] 3)).heap.size (some ⟨w.heap.size, 0, none⟩) [1]) := (sl_one (Blk.new w _ _) rfl rfl : Sl intCell 1 _ _ _ [1])
            have hS1 : Hid (Sl intCell 1 (w.alloc (.cells #[.int .i64 1] 3)) (w.alloc (.cells #[.int .i64 1] 3)).heap.size A l) := ((HR.out.below hal).more hal.size : Sl intCell 1 _ _ A l)
            obtain ⟨W0, hW0⟩ : ∃ W0, W0 = w.alloc (.cells #[.int .i64 1] 3) := ⟨_, rfl⟩
            rw [← hW0] at hal hS0 hS1 ⊢
            clear hW0
            go_loopw [8, 9, 10] (fun vo vs vn wr => ∃ (n p q : Nat) (L M : List Int) (B1 B2 : Option Addr) (c1 c2 : Nat), vn = .int .i64 n ∧ n ≤ 64 ∧ vo = .slice B1 L.length c1 ∧ vs = .slice B2 M.length c2 ∧ Hid (B1 = none → c1 = 0) ∧ Hid (Sl intCell 1 wr wr.heap.size B1 L) ∧ Hid (Sl intCell 1 wr wr.heap.size B2 M) ∧ Hid (Pow l L p) ∧ Hid (Pow l M q) ∧ Hid (p + n * q = k) ∧ L.length ≤ 4096 ∧ M.length ≤ 1000000000 ∧ Below w.heap.size w wr) (fun _ _ vn _ => (intOf vn).toNat)
            case atStart => exact ⟨k, 0, 1, [1], l, _, A, 1, c, rfl, by omega, rfl, rfl, (fun e => nomatch e), hS0, hS1, HP0, HP1, (by show 0 + k * 1 = k; omega), (by simp only [List.length_cons, List.length_nil]; omega), hm, hal⟩
            case round =>
              obtain ⟨n, p, q, L, M, B1, B2, c1, c2, rfl, hn, rfl, rfl, HZ1, HSL, HSM, HPL, HPM, HK, hL, hM, hbr⟩ := hrel
              by_cases hn0 : n = 0
              · subst hn0
                have HF : Hid (L = pwL l k) := (by
                  have h1 : p = k := by have := HK.out; omega
                  subst h1
                  exact HPL.out.unique (pow_pwL HNN.out hl0 p) HB.out : L = pwL l k)
                go_wp2
                go_ret2
                rw [HT.out]
                exact retSl_eq ⟨_, _, rfl, HSL.out, HZ1.out, hbr⟩ HF.out
              · have hpq : p + q ≤ k := by
                  have h1 := HK.out
                  have h2 := Nat.le_mul_of_pos_left q (show 0 < n by omega)
                  omega
                have hs1 : 1 ≤ sumL l := by rw [← HSS.out]; exact hs
                have e1 := HPL.out.fits HPM.out hs1 hpq HT4.out HB.out
                have o1 := (HPL.out.conv HPM.out).ok hs1 hpq HT4.out HB.out
                have H12 := Lib.hid (fun W (hW : Below wr.heap.size wr W) => (by
                  have h := sumF_any B1 B2 c1 c2 L M W (by omega) hM ((HSL.out.below hW).more hW.size) ((HSM.out.below hW).more hW.size)
                  rw [e1] at h; exact h : Calls Try.prog 29 #[.slice B1 L.length c1, .slice B2 M.length c2] W (RetSlE (conv L M) 0 W)))
                have HCV := Lib.hid (HPL.out.conv HPM.out)
                have hcl := o1.len
                have a1 := and_one_i64 n (by omega)
                have n0 : 0 < n := by omega
                clear e1 o1
                by_cases hn1 : n = 1
                · subst hn1
                  have HKN : Hid (p + q + 0 * q = k) := (by have := HK.out; omega : p + q + 0 * q = k)
                  rw [show 1 % 2 = 1 from rfl] at a1
                  go_wp2_with (go_at_call 29; ((with_reducible refine (H12.out _ (Below.refl _ _)).mono ?_); rintro _ w1 ⟨C1, d1, rfl, hs1', hz1, hb1⟩; have HS1 := Lib.hid hs1'; have HZ2 := Lib.hid hz1; clear hs1' hz1))
                  go_roundw
                  case rel => exact ⟨0, p + q, q, conv L M, M, C1, B2, d1, c2, rfl, by omega, rfl, rfl, HZ2, HS1, ((HSM.out.below hb1).more hb1.size : Sl intCell 1 _ _ B2 M), HCV, HPM, HKN, hcl, hM, bl2 hbr hb1⟩
                  case measure => simp [intOf] <;> omega
                · have hqq : q + q ≤ k := by
                    have h1 := HK.out
                    have h2 := Nat.mul_le_mul_right q (show 2 ≤ n by omega)
                    omega
                  have e2 := HPM.out.fits HPM.out hs1 hqq HT4.out HB.out
                  have o2 := (HPM.out.conv HPM.out).ok hs1 hqq HT4.out HB.out
                  have H22 := Lib.hid (fun W (hW : Below wr.heap.size wr W) => (by
                    have h := sumF_any B2 B2 c2 c2 M M W hM hM ((HSM.out.below hW).more hW.size) ((HSM.out.below hW).more hW.size)
                    rw [e2] at h; exact h : Calls Try.prog 29 #[.slice B2 M.length c2, .slice B2 M.length c2] W (RetSlE (conv M M) 0 W)))
                  have HC2 := Lib.hid (HPM.out.conv HPM.out)
                  have hcl2 := o2.len
                  have n1 : 1 < n := by omega
                  have hh : n / 2 < n := by omega
                  clear e2 o2
                  rcases Nat.mod_two_eq_zero_or_one n with hp2 | hp2
                  · have HKN : Hid (p + n / 2 * (q + q) = k) := (by
                      have h1 := HK.out
                      have h2 : n = n / 2 * 2 := by omega
                      rw [h2, Nat.mul_assoc, Nat.two_mul] at h1
                      exact h1 : p + n / 2 * (q + q) = k)
                    rw [hp2] at a1
                    go_wp2_with (go_at_call 29; ((with_reducible refine (H22.out _ (Below.refl _ _)).mono ?_); rintro _ w1 ⟨C1, d1, rfl, hs1', hz1, hb1⟩; have HS1 := Lib.hid hs1'; clear hs1' hz1))
                    go_roundw
                    case rel => exact ⟨n / 2, p, q + q, L, conv M M, B1, C1, c1, d1, by go_num, by omega, rfl, rfl, HZ1, ((HSL.out.below hb1).more hb1.size : Sl intCell 1 _ _ B1 L), HS1, HPL, HC2, HKN, hL, by omega, bl2 hbr hb1⟩
                    case measure => simp [intOf] <;> omega
                  · have HKN : Hid (p + q + n / 2 * (q + q) = k) := (by
                      have h1 := HK.out
                      have h2 : n = n / 2 * 2 + 1 := by omega
                      rw [h2, Nat.add_mul, Nat.mul_assoc, Nat.two_mul, Nat.one_mul] at h1
                      show p + q + n / 2 * (q + q) = k
                      omega : p + q + n / 2 * (q + q) = k)
                    rw [hp2] at a1
                    go_wp2_with (go_at_call 29; (first | ((with_reducible refine (H12.out _ (Below.refl _ _)).mono ?_); rintro _ w1 ⟨C1, d1, rfl, hs1', hz1, hb1⟩; have HS1 := Lib.hid hs1'; have HZ2 := Lib.hid hz1; clear hs1' hz1) |
                      ((with_reducible refine (H22.out _ hb1).mono ?_); rintro _ w2 ⟨C2, d2, rfl, hs2', hz2, hb2⟩; have HS2 := Lib.hid hs2'; clear hs2' hz2)))
                    go_roundw
                    case rel => exact ⟨n / 2, p + q, q + q, conv L M, conv M M, C1, C2, d1, d2, by go_num, by omega, rfl, rfl, HZ2, ((HS1.out.below hb2).more hb2.size : Sl intCell 1 _ _ C1 (conv L M)), HS2, HCV, HC2, HKN, hcl, by omega, bl2 (bl2 hbr hb1) hb2⟩
                    case measure => simp [intOf] <;> omega
  · have HT := Lib.hid (repR_err (t := t) he)
    have hb : (errW l != 0) = true := by simpa using he
    obtain ⟨ev, hev⟩ : ∃ ev, ev = errW l := ⟨_, rfl⟩
    rw [← hev] at HC hb HT
    clear he hr hev
    go_enter Try.func17, Try.ntmps17
    go_wp2_with (go_at_call 31; refine HC.out.mono ?_; rintro _ _ ⟨rfl, rfl⟩)
    go_ret2
    rw [HT.out]
    exact retSlE_nil (Below.refl _ _)
end Go.Proofs.Ytmfbiohdmhbkoaa

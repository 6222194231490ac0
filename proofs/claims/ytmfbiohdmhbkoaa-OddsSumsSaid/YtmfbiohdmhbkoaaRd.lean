/- The reference: Repeat. -/
import Derived.Test.YtmfbiohdmhbkoaaRc
import Derived.Test.YtmfbiohdmhbkoaaGk
namespace Go.Proofs.Ytmfbiohdmhbkoaa
open Go.RowKit

/-- a power times the list: the sum or the error -/
theorem sumR_pw {l : List Int} (h : errW l = 0) {k T : Nat} (hk : k < T) (hT : T * (l.length - 1) + 1 ≤ 4096) (hb : sumL l ^ k ≤ 1000000000000000) :
    (pwL l k).length ≤ 4096 ∧ (sumL l ^ (k + 1) ≤ 1000000000000000 → sumR (pwL l k) l = (pwL l (k + 1), 0)) ∧ (¬ sumL l ^ (k + 1) ≤ 1000000000000000 → sumR (pwL l k) l = ([], 10)) := by
  have ok := errW_zero.1 h
  have hl := ok.pos_len
  have hp := pow_pwL ok.nn hl k
  have h1 := Nat.mul_le_mul_right (l.length - 1) (show k + 1 ≤ T by omega)
  have h2 := Nat.mul_le_mul_right (l.length - 1) (show k ≤ T by omega)
  have ho : OkW (pwL l k) := ⟨by rw [hp.len]; omega, hp.nn, by rw [hp.sum]; exact Int.pow_pos (by have := ok.pos; omega), by rw [hp.sum]; exact hb⟩
  have e1 := errW_zero.2 ho
  have hlen : ¬ (4096 : Int) < ((pwL l k).length : Int) + (l.length : Int) - 1 := by rw [hp.len]; rw [Nat.add_mul] at h1; omega
  refine ⟨ho.len, fun hs => ?_, fun hs => ?_⟩
  · exact sumR_ok (fits_ok e1 h hlen (by rw [hp.sum, ← Int.pow_succ]; exact Int.not_lt.2 hs))
  · exact sumR_er (fits_over e1 h hlen (by rw [hp.sum, ← Int.pow_succ]; exact Int.not_le.1 hs)) (by decide)
theorem sl_cast {W : World} {A : Option Addr} {L M : List Int} {B : Nat} (h : Sl intCell 1 W B A L) (e : L = M) : Sl intCell 1 W B A M := e ▸ h
set_option maxRecDepth 100000 in
set_option maxHeartbeats 8000000 in
theorem rrep_any (A : Option Addr) (c : Nat) (l : List Int) (t : Int) (w : World) (hr : Sl intCell 1 w w.heap.size A l) :
    Calls Try.prog 19 #[.slice A l.length c, .int .i64 t] w (RetSlE (repR l t).1 (repR l t).2 w) := by
  have HC := Lib.hid (rcheck_any A c l w hr)
  by_cases he : errW l = 0
  · have ok := errW_zero.1 he
    rw [he] at HC
    by_cases ht : t < 0 ∨ 64 < t
    · have HT := Lib.hid (repR_range he ht)
      clear hr he ok
      by_cases h1 : t < 0
      · clear ht
        go_enter Try.func19, Try.ntmps19
        go_wp2_with (go_at_call 36; refine HC.out.mono ?_; rintro _ _ ⟨rfl, rfl⟩)
        go_ret2
        rw [HT.out]
        exact retSlE_nil (Below.refl _ _)
      · have d1 : decide (t < 0) = false := by simpa using h1
        have d2 : decide (64 < t) = true := by simp; omega
        clear ht h1
        go_enter Try.func19, Try.ntmps19
        go_wp2_with (go_at_call 36; refine HC.out.mono ?_; rintro _ _ ⟨rfl, rfl⟩)
        go_ret2
        rw [HT.out]
        exact retSlE_nil (Below.refl _ _)
    · have d1 : decide (t < 0) = false := by simp; omega
      have d2 : decide (64 < t) = false := by simp; omega
      obtain ⟨T, rfl⟩ := Int.eq_ofNat_of_zero_le (a := t) (by omega)
      have hT64 : T ≤ 64 := by omega
      have hl0 := ok.pos_len; have hl1 := ok.len
      obtain ⟨d, hd⟩ : ∃ d, l.length = d + 1 := ⟨l.length - 1, by omega⟩
      have hmul : (T : Int) * ((l.length : Int) - 1) = ((T * d : Nat) : Int) := by rw [hd]; rw [show ((d + 1 : Nat) : Int) - 1 = (d : Int) by omega, mulNN]
      have hTd : T * d ≤ 64 * 4096 := Nat.mul_le_mul (by omega) (by omega)
      have m0 : (0 : Int) ≤ (T : Int) * ((l.length : Int) - 1) := by rw [hmul]; omega
      have m1 : (T : Int) * ((l.length : Int) - 1) ≤ 262144 := by rw [hmul]; omega
      by_cases hlong : 4096 < (T : Int) * ((l.length : Int) - 1) + 1
      · have HT := Lib.hid (repR_long he ht hlong)
        clear hr he ok ht hd hmul hTd
        go_enter Try.func19, Try.ntmps19
        go_wp2_with (go_at_call 36; refine HC.out.mono ?_; rintro _ _ ⟨rfl, rfl⟩)
        go_ret2
        rw [HT.out]
        exact retSlE_nil (Below.refl _ _)
      · have m2 : decide (4096 < (T : Int) * ((l.length : Int) - 1) + 1) = false := by simpa using hlong
        have hT4 : T * (l.length - 1) + 1 ≤ 4096 := by rw [hmul] at hlong; rw [hd, Nat.add_sub_cancel]; omega
        have HOV := Lib.hid (fun h => repR_over he ht hlong h)
        have HOK := Lib.hid (fun h => repR_ok he ht hlong h)
        have HST := Lib.hid (fun k (hk : k < T) hb => sumR_pw he hk hT4 hb)
        have HPG := Lib.hid (fun i (h : i < T) hb => pow_great (s := sumL l) (by have := ok.pos; omega) h hb)
        rw [Int.toNat_natCast] at HOV HOK
        have HR := Lib.hid hr
        clear hr he ok ht hd hmul hlong hTd hT4
        go_enter Try.func19, Try.ntmps19
        go_wp2_with (go_at_call 36; refine HC.out.mono ?_; rintro _ _ ⟨rfl, rfl⟩)
        have hal : Below w.heap.size w (w.alloc (.cells #[.int .i64 1] 3)) := (Below.refl _ _).alloc (Nat.le_refl _) _
        have hS0 : Hid (Sl intCell 1 (w.alloc (.cells #[.int .i64 1] 3)) (w.alloc (.cells #[.int .i64 1] 3)).heap.size (some ⟨w.heap.size, 0, none⟩) (pwL l 0)) := (sl_one (Blk.new w _ _) rfl rfl : Sl intCell 1 _ _ _ [1])
        obtain ⟨W0, hW0⟩ : ∃ W0, W0 = w.alloc (.cells #[.int .i64 1] 3) := ⟨_, rfl⟩
        rw [← hW0] at hal hS0 ⊢
        clear hW0
        go_loopw [7, 8, 9, 10] (fun vo vi _ _ wr => ∃ (k : Nat) (L : List Int) (B : Option Addr) (d : Nat), k ≤ T ∧ vi = .int .i64 k ∧ vo = .slice B L.length d ∧ Hid (L = pwL l k) ∧ Hid (Sl intCell 1 wr wr.heap.size B L) ∧ Hid (sumL l ^ k ≤ 1000000000000000) ∧ Hid (B = none → d = 0) ∧ Below w.heap.size w wr) (fun _ vi _ _ _ => T - (intOf vi).toNat)
        case atStart => exact ⟨0, pwL l 0, _, 1, by omega, rfl, rfl, rfl, hS0, (by show sumL l ^ 0 ≤ 1000000000000000; rw [Int.pow_zero]; decide), (fun e => nomatch e), hal⟩
        case round =>
          obtain ⟨k, L, B, d, hk, rfl, rfl, HL, HSL, HB, HZ, hbr⟩ := hrel
          by_cases hlt : k < T
          · obtain ⟨h1, h2, h3⟩ := HST.out k hlt HB.out
            rw [← HL.out] at h1 h2 h3
            have HSW := Lib.hid ((HR.out.below hbr).more hbr.size)
            have HCL := Lib.hid (rsum_any B A d c L l wr HSL.out HSW.out)
            by_cases hs : sumL l ^ (k + 1) ≤ 1000000000000000
            · have e := h2 hs
              rw [e] at HCL
              have HBN := Lib.hid hs
              clear h1 h2 h3 e hs
              go_wp2_with (go_at_call 54; refine HCL.out.mono ?_; rintro _ w1 ⟨C1, d1, rfl, hs1', hz1, hb1⟩; have HS1 := Lib.hid hs1'; have HZ1 := Lib.hid hz1; clear hs1' hz1)
              go_roundw
              case rel => exact ⟨k + 1, pwL l (k + 1), C1, d1, by omega, by go_num, rfl, rfl, HS1, HBN, HZ1, bl2 hbr hb1⟩
              case measure => simp [intOf]; omega
            · have e := h3 (Int.not_le.1 hs)
              rw [e] at HCL
              have HT := Lib.hid (HOV.out (HPG.out k hlt (by rw [← Int.pow_succ]; exact Int.not_le.1 hs)))
              clear h1 h2 h3 e hs
              go_wp2_with (go_at_call 54; refine HCL.out.mono ?_; rintro _ w1 ⟨C1, d1, rfl, -, -, hb1⟩)
              go_ret2
              rw [HT.out]
              exact retSlE_nil (bl2 hbr hb1)
          · obtain rfl : k = T := by omega
            have HT := Lib.hid (HOK.out HB.out)
            go_wp2
            go_ret2
            rw [HT.out]
            exact retSl_eq ⟨_, _, rfl, HSL.out, HZ.out, hbr⟩ HL.out
  · have HT := Lib.hid (repR_err (t := t) he)
    have hb : (errW l != 0) = true := by simpa using he
    obtain ⟨ev, hev⟩ : ∃ ev, ev = errW l := ⟨_, rfl⟩
    rw [← hev] at HC hb HT
    clear he hr hev
    go_enter Try.func19, Try.ntmps19
    go_wp2_with (go_at_call 36; refine HC.out.mono ?_; rintro _ _ ⟨rfl, rfl⟩)
    go_ret2
    rw [HT.out]
    exact retSlE_nil (Below.refl _ _)
end Go.Proofs.Ytmfbiohdmhbkoaa

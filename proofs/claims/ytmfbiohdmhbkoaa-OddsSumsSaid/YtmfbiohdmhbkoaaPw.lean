/- Plain: sums of outcomes are the same both ways round; repeated some times and then others. -/
import Derived.Test.YtmfbiohdmhbkoaaPp
import Derived.Test.YtmfbiohdmhbkoaaPr
namespace Go.Proofs.Ytmfbiohdmhbkoaa

theorem conv_dig {a b : List Int} (o1 : OkW a) (o2 : OkW b) (hs : sumL a * sumL b ≤ 1000000000000000) : ∀ y ∈ conv a b, 0 ≤ y ∧ y < 1000000000000001 := fun y hy => by
  have h0 := conv_nn o1.nn o2.nn y hy
  obtain ⟨k, hk, rfl⟩ := List.mem_iff_getElem.1 hy
  have h1 := le_sumL (conv_nn o1.nn o2.nn) hk
  rw [sumL_conv a b o2.pos_len] at h1
  omega
theorem conv_comm {a b : List Int} (o1 : OkW a) (o2 : OkW b) (hs : sumL a * sumL b ≤ 1000000000000000) : conv b a = conv a b := by
  refine ev_inj (B := 1000000000000001) (by omega) (by rw [conv_len, conv_len]; omega) (conv_dig o2 o1 (by rw [Int.mul_comm]; exact hs)) (conv_dig o1 o2 hs) ?_
  rw [ev_conv _ _ _ o1.pos_len, ev_conv _ _ _ o2.pos_len, Int.mul_comm]
theorem conv_ok {a b : List Int} (o1 : OkW a) (o2 : OkW b) (hs : sumL a * sumL b ≤ 1000000000000000) (hl : (a.length : Int) + b.length - 1 ≤ 4096) : OkW (conv a b) := by
  have l1 := o1.pos_len; have l2 := o2.pos_len
  refine ⟨by rw [conv_len]; omega, conv_nn o1.nn o2.nn, ?_, by rw [sumL_conv a b l2]; exact hs⟩
  rw [sumL_conv a b l2]
  have := Int.mul_le_mul o1.pos o2.pos (by omega) (by have := o1.pos; omega)
  omega
theorem sumR_two {a b : List Int} (h : (sumR a b).2 = 0) : sumR a b = (conv a b, 0) ∧ sumR b a = (conv a b, 0) ∧ OkW (conv a b) ∧ ((conv a b).length : Int) = (a.length : Int) + (b.length : Int) - 1 := by
  have hf : fitsW a b (a.length + b.length - 1) = 0 := by
    unfold sumR at h
    by_cases hf : fitsW a b (a.length + b.length - 1) = 0
    · exact hf
    · rw [if_neg hf] at h; exact absurd h hf
  obtain ⟨o1, o2, hl, hs⟩ := fitsW_zero.1 hf
  have l1 := o1.pos_len; have l2 := o2.pos_len
  have hf2 : fitsW b a (b.length + a.length - 1) = 0 := fitsW_zero.2 ⟨o2, o1, by omega, by rw [Int.mul_comm]; exact hs⟩
  refine ⟨by unfold sumR; rw [if_pos hf], by unfold sumR; rw [if_pos hf2, conv_comm o1 o2 hs], conv_ok o1 o2 hs hl, by rw [conv_len]; omega⟩
theorem repR_zero {l : List Int} {t : Int} (h : (repR l t).2 = 0) : errW l = 0 ∧ ¬ (t < 0 ∨ 64 < t) ∧ ¬ 4096 < t * ((l.length : Int) - 1) + 1 ∧ ¬ 1000000000000000 < sumL l ^ t.toNat := by
  unfold repR at h
  by_cases h1 : errW l = 0
  · rw [if_neg (fun hh => hh h1)] at h
    by_cases h2 : t < 0 ∨ 64 < t
    · rw [if_pos h2] at h; cases h
    · rw [if_neg h2] at h
      by_cases h3 : 4096 < t * ((l.length : Int) - 1) + 1
      · rw [if_pos h3] at h; cases h
      · rw [if_neg h3] at h
        by_cases h4 : 1000000000000000 < sumL l ^ t.toNat
        · rw [if_pos h4] at h; cases h
        · exact ⟨h1, h2, h3, h4⟩
  · rw [if_pos h1] at h; exact absurd h h1
theorem repR_not {l : List Int} {t : Int} (h : (repR l t).2 ≠ 0) : (repR l t).1 = [] := by
  unfold repR at h ⊢
  split
  · rfl
  · rename_i h1
    rw [if_neg h1] at h
    split
    · rfl
    · rename_i h2
      rw [if_neg h2] at h
      split
      · rfl
      · rename_i h3
        rw [if_neg h3] at h
        split
        · rfl
        · rename_i h4
          rw [if_neg h4] at h
          exact absurd rfl h
theorem rep_at {l : List Int} (he : errW l = 0) {p T : Nat} (hp : p ≤ T) (hT : T ≤ 64) (hl : T * (l.length - 1) + 1 ≤ 4096) (hb : sumL l ^ T ≤ 1000000000000000) : repR l (p : Int) = (pwL l p, 0) := by
  have ok := errW_zero.1 he
  have hm := pow_mono ok.pos hp
  have h3 := Nat.mul_le_mul_right (l.length - 1) hp
  obtain ⟨d, hd⟩ : ∃ d, l.length = d + 1 := ⟨l.length - 1, by have := ok.pos_len; omega⟩
  have hmul : (p : Int) * ((l.length : Int) - 1) = ((p * d : Nat) : Int) := by
    rw [hd, show ((d + 1 : Nat) : Int) - 1 = (d : Int) by omega]; exact (Int.natCast_mul p d).symm
  rw [hd, Nat.add_sub_cancel] at h3 hl
  unfold repR
  rw [if_neg (fun hh => hh he), if_neg (by omega), if_neg (by rw [hmul]; omega), if_neg (by rw [Int.toNat_natCast]; omega), Int.toNat_natCast]
/-- repeated m times and then n times -/
theorem rep_parts {l : List Int} {m n : Nat} (h : (repR l ((m : Int) + (n : Int))).2 = 0) :
    repR l ((m : Int) + (n : Int)) = (pwL l (m + n), 0) ∧ repR l (m : Int) = (pwL l m, 0) ∧ repR l (n : Int) = (pwL l n, 0) ∧ sumR (pwL l m) (pwL l n) = (pwL l (m + n), 0) ∧ repR l 1 = (l, 0) := by
  obtain ⟨he, h1, h2, h3⟩ := repR_zero h
  have ok := errW_zero.1 he
  have hl := ok.pos_len
  have e : (m : Int) + (n : Int) = ((m + n : Nat) : Int) := by omega
  rw [e] at h1 h2 h3 ⊢
  rw [Int.toNat_natCast] at h3
  obtain ⟨d, hd⟩ : ∃ d, l.length = d + 1 := ⟨l.length - 1, by omega⟩
  have hmul : ((m + n : Nat) : Int) * ((l.length : Int) - 1) = (((m + n) * d : Nat) : Int) := by
    rw [hd, show ((d + 1 : Nat) : Int) - 1 = (d : Int) by omega]; exact (Int.natCast_mul (m + n) d).symm
  rw [hmul] at h2
  have hl4 : (m + n) * (l.length - 1) + 1 ≤ 4096 := by rw [hd, Nat.add_sub_cancel]; omega
  have hb : sumL l ^ (m + n) ≤ 1000000000000000 := Int.not_lt.1 h3
  have hpm := pow_pwL ok.nn hl m
  have hpn := pow_pwL ok.nn hl n
  have hpt := pow_pwL ok.nn hl (m + n)
  have hf := hpm.fits hpn ok.pos (Nat.le_refl (m + n)) hl4 hb
  have hc : conv (pwL l m) (pwL l n) = pwL l (m + n) := (hpm.conv hpn).unique hpt hb
  have h64 : m + n ≤ 64 := by omega
  have h1l : repR l ((1 : Nat) : Int) = (pwL l 1, 0) := rep_at he (Nat.le_refl 1) (by omega) (by have := ok.len; omega) (by have := ok.le; rw [Int.pow_succ, Int.pow_zero, Int.one_mul]; exact this)
  have hone : pwL l 1 = l := (pow_pwL ok.nn hl 1).unique (Pow.one ok.nn hl) (by have := ok.le; rw [Int.pow_succ, Int.pow_zero, Int.one_mul]; exact this)
  rw [hone] at h1l
  exact ⟨rep_at he (Nat.le_refl _) h64 hl4 hb, rep_at he (by omega) h64 hl4 hb, rep_at he (by omega) h64 hl4 hb, by rw [hf, hc], h1l⟩
end Go.Proofs.Ytmfbiohdmhbkoaa

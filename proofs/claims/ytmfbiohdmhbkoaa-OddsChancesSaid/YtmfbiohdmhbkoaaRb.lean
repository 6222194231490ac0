/- The reference: Over, Check, Total, Divisor. -/
import Derived.Test.YtmfbiohdmhbkoaaGj
namespace Go.Proofs.Ytmfbiohdmhbkoaa
open Go.RowKit

/-- a times b is greater than what is allowed -/
def overB (a b : Int) : Bool := decide (1000000000000000 < a * b)
theorem over_iff {a b : Int} (ha : 0 < a) : 1000000000000000 / a < b ↔ 1000000000000000 < a * b := by
  rw [Int.ediv_lt_iff_lt_mul ha, Int.mul_comm]
set_option maxHeartbeats 1000000 in
theorem rover_any (a b : Int) (w : World) (ha : 0 ≤ a) (_hb : 0 ≤ b) (ha' : a ≤ 4000000000000000000) (_hb' : b ≤ 4000000000000000000) :
    Calls Try.prog 64 #[.int .i64 a, .int .i64 b] w fun e w' => e = .returned (.bool (overB a b)) ∧ Below w.heap.size w w' := by
  by_cases h0 : a = 0
  · subst h0
    have HT : Hid (overB 0 b = false) := (by simp [overB] : overB 0 b = false)
    go_enter Try.func64, Try.ntmps64
    go_wp2
    go_ret
    exact ⟨ret_bool HT.out.symm, Below.refl _ _⟩
  · have a0 : 0 < a := by omega
    have e1 : (a == 0) = false := by simpa using h0
    have e2 : (1000000000000000 : Int).tdiv a = 1000000000000000 / a := Int.tdiv_eq_ediv_of_nonneg (by omega)
    have q0 : 0 ≤ 1000000000000000 / a := Int.ediv_nonneg (by omega) ha
    have q1 : 1000000000000000 / a ≤ 1000000000000000 := Int.ediv_le_self _ (by omega)
    have HT : Hid (overB a b = decide (1000000000000000 / a < b)) := (by unfold overB; exact decide_eq_decide.2 (over_iff a0).symm : overB a b = _)
    obtain ⟨q, hq⟩ : ∃ q, q = 1000000000000000 / a := ⟨_, rfl⟩
    rw [← hq] at e2 q0 q1 HT
    clear hq h0
    go_enter Try.func64, Try.ntmps64
    go_wp2
    go_ret
    exact ⟨ret_bool HT.out.symm, by (repeat (first | exact Below.refl _ _ | assumption | (refine Below.alloc ?_ (by first | omega | (simp; omega) | (simp; done)) _) | (refine Below.setCell ?_ (by first | omega | (simp; omega) | (simp; done)) _) | (refine Below.drew ?_) | (refine belowN ?_ _) | (refine Below.trans ?_ (Below.mono ‹Below _ _ _› (by first | omega | (simp; omega) | (simp; done))))))⟩
theorem okW_big {w : List Int} {k : Nat} (hk : k < w.length) (h : 1000000000000000 < w[k]) : okW w = false := by
  rw [← Bool.not_eq_true]; intro hh
  obtain ⟨h1, _, h3⟩ := okW_iff.1 hh
  have := le_sumL h1 hk
  omega
theorem okW_sum {w : List Int} (h : sumL w < 1 ∨ 1000000000000000 < sumL w) : okW w = false := by
  rw [← Bool.not_eq_true]; intro hh
  obtain ⟨h1, h2, h3⟩ := okW_iff.1 hh
  omega
set_option maxHeartbeats 1000000 in
theorem rcheck_any (A : Option Addr) (c : Nat) (l : List Int) (w : World) (hr : Sl intCell 1 w w.heap.size A l) :
    Calls Try.prog 36 #[.slice A l.length c] w fun e w' => e = .returned (.int .i64 (errW l)) ∧ w = w' := by
  by_cases hlen : 4096 < l.length
  · have HE := Lib.hid (err_long hlen)
    clear hr
    go_enter Try.func36, Try.ntmps36
    go_wp2
    go_ret
    exact ⟨ret_int HE.out.symm, rfl⟩
  · have HR := Lib.hid hr
    have hl : l.length ≤ 4096 := by omega
    have d1 : decide (4096 < l.length) = false := by simp; omega
    have d2 : decide ((4096 : Int) < (l.length : Int)) = false := by simp; omega
    clear hr hlen
    go_enter Try.func36, Try.ntmps36
    go_wp2
    go_loop [3, 4] (fun v i => ∃ k : Nat, k ≤ l.length ∧ i = .int .i64 k ∧ v = .int .i64 (sumL (l.take k)) ∧ 0 ≤ sumL (l.take k) ∧ sumL (l.take k) ≤ 1000000000000000 * k ∧ Hid (∀ x ∈ l.take k, 0 ≤ x)) (fun _ i => l.length - (intOf i).toNat)
    case atStart => exact ⟨0, by omega, rfl, rfl, by simp [sumL], by simp [sumL], fun x hx => by simp at hx⟩
    case round =>
      obtain ⟨k, hk, rfl, rfl, h0, h1, hn⟩ := hrel
      by_cases hlt : k < l.length
      · obtain ⟨b, o, rfl, hb, hc⟩ := HR.out.int_at hlt
        have HS := Lib.hid (sumL_take l k hlt)
        have HT := Lib.hid (take_snoc_int l k hlt)
        have HN := Lib.hid (fun h => err_bad hl (okW_neg (w := l) hlt h))
        have HG := Lib.hid (fun h => err_bad hl (okW_big (w := l) hlt h))
        obtain ⟨s, hs⟩ : ∃ s, s = sumL (l.take k) := ⟨_, rfl⟩
        obtain ⟨x, hx⟩ : ∃ x, x = l[k] := ⟨_, rfl⟩
        rw [← hs] at h0 h1 HS ⊢
        rw [← hx] at hc HS HT HN HG
        clear hs hx
        by_cases n0 : x < 0
        · have HZ := Lib.hid (HN.out n0)
          go_wp2
          go_ret
          exact ⟨ret_int HZ.out.symm, rfl⟩
        · by_cases n1 : 1000000000000000 < x
          · have HZ := Lib.hid (HG.out n1)
            have e0 : decide (x < 0) = false := by simp; omega
            go_wp2
            go_ret
            exact ⟨ret_int HZ.out.symm, rfl⟩
          · have e0 : decide (x < 0) = false := by simp; omega
            have e1 : decide (1000000000000000 < x) = false := by simp; omega
            have y0 : 0 ≤ x := by omega
            have y1 : x ≤ 1000000000000000 := by omega
            clear n0 n1
            go_wp2
            go_round
            case rel => exact ⟨k + 1, by omega, by go_num, by rw [HS.out], by rw [HS.out]; omega, by rw [HS.out]; omega, fun z hz => by
              rw [HT.out] at hz
              rcases List.mem_append.1 hz with h | h
              · exact hn.out z h
              · simp at h; omega⟩
            case measure => simp [intOf]; omega
      · obtain rfl : k = l.length := by omega
        have e := take_all_int l
        rw [e] at h0 h1 hn ⊢
        clear e
        by_cases hz : sumL l < 1
        · have HZ := Lib.hid (err_bad hl (okW_sum (.inl hz)))
          obtain ⟨s, hs⟩ : ∃ s, s = sumL l := ⟨_, rfl⟩
          rw [← hs] at hz h0 h1 ⊢
          clear hs
          go_wp2
          go_ret
          exact ⟨ret_int HZ.out.symm, rfl⟩
        · have hb : decide (sumL l < 1) = false := by simp; omega
          by_cases hz2 : 1000000000000000 < sumL l
          · have HZ := Lib.hid (err_bad hl (okW_sum (.inr hz2)))
            obtain ⟨s, hs⟩ : ∃ s, s = sumL l := ⟨_, rfl⟩
            rw [← hs] at hb hz2 h0 h1 ⊢
            clear hz hs
            go_wp2
            go_ret
            exact ⟨ret_int HZ.out.symm, rfl⟩
          · have HZ := Lib.hid (errW_zero.2 ⟨hl, hn.out, by omega, by omega⟩)
            have hb2 : decide (1000000000000000 < sumL l) = false := by simp; omega
            obtain ⟨s, hs⟩ : ∃ s, s = sumL l := ⟨_, rfl⟩
            rw [← hs] at hb hb2 h0 h1 ⊢
            clear hz hz2 hs
            go_wp2
            go_ret
            exact ⟨ret_int HZ.out.symm, rfl⟩
set_option maxHeartbeats 1000000 in
theorem rtotal_any (A : Option Addr) (c : Nat) (l : List Int) (w : World) (hm : l.length ≤ 1000000000) (hn : ∀ x ∈ l, 0 ≤ x) (hs : sumL l ≤ 4000000000000000000) (hr : Sl intCell 1 w w.heap.size A l) :
    Calls Try.prog 39 #[.slice A l.length c] w fun e w' => e = .returned (.int .i64 (sumL l)) ∧ w = w' := by
  have HR := Lib.hid hr; have HN := Lib.hid hn
  clear hr hn
  go_enter Try.func39, Try.ntmps39
  go_wp2
  go_loop [3, 4] (fun v i => ∃ k : Nat, k ≤ l.length ∧ i = .int .i64 k ∧ v = .int .i64 (sumL (l.take k))) (fun _ i => l.length - (intOf i).toNat)
  case atStart => exact ⟨0, by omega, rfl, rfl⟩
  case round =>
    obtain ⟨k, hk, rfl, rfl⟩ := hrel
    by_cases hlt : k < l.length
    · obtain ⟨b, o, rfl, hb, hc⟩ := HR.out.int_at hlt
      have HS := Lib.hid (sumL_take l k hlt)
      have y0 := HN.out _ (List.getElem_mem hlt)
      obtain ⟨z0, z1⟩ := sumL_take_le HN.out k
      obtain ⟨z2, z3⟩ := sumL_take_le HN.out (k + 1)
      rw [HS.out] at z2 z3
      obtain ⟨s, hs'⟩ : ∃ s, s = sumL (l.take k) := ⟨_, rfl⟩
      obtain ⟨x, hx⟩ : ∃ x, x = l[k] := ⟨_, rfl⟩
      rw [← hs'] at z0 z1 z2 z3 HS ⊢
      rw [← hx] at hc HS y0 z2 z3
      clear hs' hx
      go_wp2
      go_round
      case rel => exact ⟨k + 1, by omega, by go_num, by rw [HS.out]⟩
      case measure => simp [intOf]; omega
    · obtain rfl : k = l.length := by omega
      have e := take_all_int l
      rw [e]; clear e
      go_wp2
      go_ret
      exact ⟨rfl, rfl⟩
set_option maxHeartbeats 1000000 in
theorem rdiv_any (a b : Int) (w : World) (ha : 0 ≤ a) (hb : 0 ≤ b) (ha' : a ≤ 4000000000000000000) (hb' : b ≤ 4000000000000000000) :
    Calls Try.prog 63 #[.int .i64 a, .int .i64 b] w fun e w' => e = .returned (.int .i64 (gI a b)) ∧ Below w.heap.size w w' := by
  go_enter Try.func63, Try.ntmps63
  go_wp2
  go_loopw [0, 1] (fun v b' wr => ∃ p q : Int, 0 ≤ p ∧ 0 ≤ q ∧ p ≤ 4000000000000000000 ∧ q ≤ 4000000000000000000 ∧ v = .int .i64 p ∧ b' = .int .i64 q ∧ Hid (gI p q = gI a b) ∧ Below w.heap.size w wr) (fun _ b' _ => (intOf b').toNat)
  case atStart => exact ⟨a, b, ha, hb, ha', hb', rfl, rfl, rfl, Below.refl _ _⟩
  case round =>
    obtain ⟨p, q, p0, q0, p1, q1, rfl, rfl, HG, hb2⟩ := hrel
    by_cases hq : q = 0
    · subst hq
      have HP := Lib.hid (gI_zero p0)
      go_wp2
      go_ret
      exact ⟨ret_int (HP.out.symm.trans HG.out), hb2⟩
    · have e0 : (q != 0) = true := by simpa using hq
      have e1 : (q == 0) = false := by simpa using hq
      obtain ⟨h1, h2, h3, h4⟩ := gI_next p0 q0 hq
      have H1 := Lib.hid h1
      clear h1
      go_wp2
      go_quiet (fail)
      go_wp2
      go_roundw
      case rel => exact ⟨q, p % q, q0, h2, q1, by omega, rfl, rfl, by rw [H1.out]; exact HG.out, belowN hb2 _⟩
      case measure => simp [intOf]; omega
end Go.Proofs.Ytmfbiohdmhbkoaa

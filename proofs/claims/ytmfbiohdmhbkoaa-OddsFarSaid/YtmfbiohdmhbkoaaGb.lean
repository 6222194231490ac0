/- odds: Check, sum, gcd. -/
import Derived.Test.YtmfbiohdmhbkoaaGa
namespace Go.Proofs.Ytmfbiohdmhbkoaa
open Go.RowKit

theorem err_long {w : List Int} (h : 4096 < w.length) : errW w = 5 := by unfold errW; rw [if_pos h]
theorem err_bad {w : List Int} (h : w.length ≤ 4096) (h2 : okW w = false) : errW w = 2 := by unfold errW; rw [if_neg (by omega), if_neg (by simp [h2])]
theorem okW_neg {w : List Int} {k : Nat} (hk : k < w.length) (h : w[k] < 0) : okW w = false := by
  rw [← Bool.not_eq_true]; intro hh
  have := (okW_iff.1 hh).1 _ (List.getElem_mem hk); omega
theorem okW_great {w : List Int} {k : Nat} (hk : k < w.length) (h : 1000000000000000 - sumL (w.take k) < w[k]) : okW w = false := by
  rw [← Bool.not_eq_true]; intro hh
  obtain ⟨h1, _, h3⟩ := okW_iff.1 hh
  have e := sumL_take w k hk
  have := (sumL_take_le h1 (k + 1)).2
  omega
theorem okW_zero {w : List Int} (h : sumL w = 0) : okW w = false := by
  rw [← Bool.not_eq_true]; intro hh
  have := (okW_iff.1 hh).2.1; omega
theorem take_all_int (w : List Int) : w.take w.length = w := List.take_length
set_option maxHeartbeats 1000000 in
theorem check_any (A : Option Addr) (c : Nat) (l : List Int) (w : World) (hm : l.length ≤ 1000000000) (hr : Sl intCell 1 w w.heap.size A l) :
    Calls Try.prog 31 #[.slice A l.length c] w fun e w' => e = .returned (.int .i64 (errW l)) ∧ w = w' := by
  by_cases hlen : 4096 < l.length
  · have HE := Lib.hid (err_long hlen)
    clear hr
    go_enter Try.func31, Try.ntmps31
    go_wp2
    go_ret
    exact ⟨ret_int HE.out.symm, rfl⟩
  · have HR := Lib.hid hr
    have hl : l.length ≤ 4096 := by omega
    have d1 : decide (4096 < l.length) = false := by simp; omega
    have d2 : decide ((4096 : Int) < (l.length : Int)) = false := by simp; omega
    clear hr hlen
    go_enter Try.func31, Try.ntmps31
    go_wp2
    go_loop [3, 11] (fun v i => ∃ k : Nat, k ≤ l.length ∧ i = .int .i64 k ∧ v = .int .i64 (1000000000000000 - sumL (l.take k)) ∧ 0 ≤ sumL (l.take k) ∧ sumL (l.take k) ≤ 1000000000000000 ∧ Hid (∀ x ∈ l.take k, 0 ≤ x)) (fun _ i => l.length - (intOf i).toNat)
    case atStart => exact ⟨0, by omega, rfl, rfl, by simp [sumL], by simp [sumL], fun x hx => by simp at hx⟩
    case round =>
      obtain ⟨k, hk, rfl, rfl, h0, h1, hn⟩ := hrel
      by_cases hlt : k < l.length
      · obtain ⟨b, o, rfl, hb, hc⟩ := HR.out.int_at hlt
        have HS := Lib.hid (sumL_take l k hlt)
        have HT := Lib.hid (take_snoc_int l k hlt)
        have HN := Lib.hid (fun h => err_bad hl (okW_neg (w := l) hlt h))
        have HG := Lib.hid (fun h => err_bad hl (okW_great (w := l) hlt h))
        obtain ⟨s, hs⟩ : ∃ s, s = sumL (l.take k) := ⟨_, rfl⟩
        obtain ⟨x, hx⟩ : ∃ x, x = l[k] := ⟨_, rfl⟩
        rw [← hs] at h0 h1 HS HG ⊢
        rw [← hx] at hc HS HT HN HG
        clear hs hx
        by_cases n0 : x < 0
        · have HZ := Lib.hid (HN.out n0)
          go_wp2
          go_ret
          exact ⟨ret_int HZ.out.symm, rfl⟩
        · by_cases n1 : 1000000000000000 - s < x
          · have HZ := Lib.hid (HG.out n1)
            go_wp2
            go_ret
            exact ⟨ret_int HZ.out.symm, rfl⟩
          · have e0 : decide (x < 0) = false := by simp; omega
            have e1 : decide (1000000000000000 - s < x) = false := by simp; omega
            have y0 : 0 ≤ x := by omega
            have y1 : x ≤ 1000000000000000 - s := by omega
            clear n0 n1
            go_wp2
            go_round
            case rel => exact ⟨k + 1, by omega, by go_num, by rw [HS.out]; go_num, by rw [HS.out]; omega, by rw [HS.out]; omega, fun z hz => by
              rw [HT.out] at hz
              rcases List.mem_append.1 hz with h | h
              · exact hn.out z h
              · simp at h; omega⟩
            case measure => simp [intOf]; omega
      · obtain rfl : k = l.length := by omega
        have e := take_all_int l
        rw [e] at h0 h1 hn ⊢
        clear e
        by_cases hz : sumL l = 0
        · have HZ := Lib.hid (err_bad hl (okW_zero hz))
          have hb : (1000000000000000 - sumL l == 1000000000000000) = true := by simp [hz]
          obtain ⟨s, hs⟩ : ∃ s, s = sumL l := ⟨_, rfl⟩
          rw [← hs] at hb h0 h1 ⊢
          clear hz hs
          go_wp2
          go_ret
          exact ⟨ret_int HZ.out.symm, rfl⟩
        · have HZ := Lib.hid (errW_zero.2 ⟨hl, hn.out, by omega, h1⟩)
          have hb : (1000000000000000 - sumL l == 1000000000000000) = false := by simp; omega
          obtain ⟨s, hs⟩ : ∃ s, s = sumL l := ⟨_, rfl⟩
          rw [← hs] at hb h0 h1 ⊢
          clear hz hs
          go_wp2
          go_ret
          exact ⟨ret_int HZ.out.symm, rfl⟩
set_option maxHeartbeats 1000000 in
theorem sum_any (A : Option Addr) (c : Nat) (l : List Int) (w : World) (hm : l.length ≤ 1000000) (hn : ∀ x ∈ l, 0 ≤ x) (hs : sumL l ≤ 4000000000000000000) (hr : Sl intCell 1 w w.heap.size A l) :
    Calls Try.prog 57 #[.slice A l.length c] w fun e w' => e = .returned (.int .i64 (sumL l)) ∧ w = w' := by
  have HR := Lib.hid hr; have HN := Lib.hid hn
  clear hr hn
  go_enter Try.func57, Try.ntmps57
  go_wp2
  go_loop [2, 7] (fun v i => ∃ k : Nat, k ≤ l.length ∧ i = .int .i64 k ∧ v = .int .i64 (sumL (l.take k))) (fun _ i => l.length - (intOf i).toNat)
  case atStart => exact ⟨0, by omega, rfl, rfl⟩
  case round =>
    obtain ⟨k, hk, rfl, rfl⟩ := hrel
    by_cases hlt : k < l.length
    · obtain ⟨b, o, rfl, hb, hc⟩ := HR.out.int_at hlt
      have HS := Lib.hid (sumL_take l k hlt)
      have y0 := HN.out _ (List.getElem_mem hlt)
      obtain ⟨z0, z1⟩ := sumL_take_le HN.out k
      obtain ⟨z2, z3⟩ := sumL_take_le HN.out (k + 1)
      rw [HS.out] at z2 z3
      obtain ⟨s, hs'⟩ : ∃ s, s = sumL (l.take k) := ⟨_, rfl⟩
      obtain ⟨x, hx⟩ : ∃ x, x = l[k] := ⟨_, rfl⟩
      rw [← hs'] at z0 z1 z2 z3 HS ⊢
      rw [← hx] at hc HS y0 z2 z3
      clear hs' hx
      go_wp2
      go_round
      case rel => exact ⟨k + 1, by omega, by go_num, by rw [HS.out]⟩
      case measure => simp [intOf]; omega
    · obtain rfl : k = l.length := by omega
      have e := take_all_int l
      rw [e]; clear e
      go_wp2
      go_ret
      exact ⟨rfl, rfl⟩
end Go.Proofs.Ytmfbiohdmhbkoaa

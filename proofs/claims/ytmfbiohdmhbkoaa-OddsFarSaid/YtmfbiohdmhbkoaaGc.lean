/- odds: gcd; the reference: Divisor. -/
import Derived.Test.YtmfbiohdmhbkoaaGb
namespace Go.Proofs.Ytmfbiohdmhbkoaa
open Go.RowKit

theorem gI_next {x y : Int} (hx : 0 ≤ x) (hy : 0 ≤ y) (h : y ≠ 0) : gI y (x % y) = gI x y ∧ 0 ≤ x % y ∧ x % y < y ∧ x % y ≤ x :=
  ⟨gI_step hx hy, Int.emod_nonneg _ h, Int.emod_lt_of_pos _ (by omega), by
    rcases Int.lt_or_le x y with h1 | h1
    · rw [Int.emod_eq_of_lt hx h1]; exact Int.le_refl _
    · have := Int.emod_lt_of_pos x (show 0 < y by omega); omega⟩
set_option maxHeartbeats 2000000 in
theorem gcd_any (A : Option Addr) (c : Nat) (l : List Int) (w : World) (hm : l.length ≤ 1000000) (hn : ∀ x ∈ l, 0 ≤ x ∧ x ≤ 1000000000000000) (hr : Sl intCell 1 w w.heap.size A l) :
    Calls Try.prog 62 #[.slice A l.length c] w fun e w' => e = .returned (.int .i64 (gL l)) ∧ Below w.heap.size w w' := by
  have HR := Lib.hid hr; have HN := Lib.hid hn
  clear hr hn
  go_enter Try.func62, Try.ntmps62
  go_wp2
  go_loopw [2, 4, 7] (fun v b i wr => ∃ k : Nat, k ≤ l.length ∧ i = .int .i64 k ∧ v = .int .i64 (gL (l.take k)) ∧ gL (l.take k) ≤ 1000000000000000 ∧ Below w.heap.size w wr) (fun _ _ i _ => l.length - (intOf i).toNat)
  case atStart => exact ⟨0, by omega, rfl, rfl, by simp [gL], Below.refl _ _⟩
  case round =>
    obtain ⟨k, hk, rfl, rfl, hg, hb⟩ := hrel
    by_cases hlt : k < l.length
    · obtain ⟨b, o, rfl, hbb, hc⟩ := (HR.out.below hb).int_at hlt
      have HS := Lib.hid (gL_take l k hlt)
      obtain ⟨y0, y1⟩ := HN.out _ (List.getElem_mem hlt)
      have g0 := gL_nonneg (l.take k)
      obtain ⟨s, hs'⟩ : ∃ s, s = gL (l.take k) := ⟨_, rfl⟩
      obtain ⟨x, hx⟩ : ∃ x, x = l[k] := ⟨_, rfl⟩
      rw [← hs'] at hg g0 HS ⊢
      rw [← hx] at hc HS y0 y1
      clear hs' hx
      go_wp2
      rename World => wo
      go_loopw [2, 4] (fun v b wr => ∃ p q : Int, 0 ≤ p ∧ 0 ≤ q ∧ p ≤ 1000000000000000 ∧ q ≤ 1000000000000000 ∧ v = .int .i64 p ∧ b = .int .i64 q ∧ Hid (gI p q = gI s x) ∧ Below w.heap.size w wr) (fun _ b _ => (intOf b).toNat)
      case atStart => exact ⟨s, x, g0, y0, hg, y1, rfl, rfl, rfl, hb⟩
      case round =>
        obtain ⟨p, q, p0, q0, p1, q1, rfl, rfl, HG, hb2⟩ := hrel
        by_cases hq : q = 0
        · subst hq
          have HP := Lib.hid (gI_zero p0)
          go_wp2
          go_roundw
          case rel => exact ⟨k + 1, by omega, by go_num, by rw [HS.out, ← HG.out, HP.out], by rw [HS.out, ← HG.out, HP.out]; exact p1, hb2⟩
          case measure => simp [intOf]; omega
        · have e0 : (q != 0) = true := by simpa using hq
          have e1 : (q == 0) = false := by simpa using hq
          obtain ⟨h1, h2, h3, h4⟩ := gI_next p0 q0 hq
          have H1 := Lib.hid h1
          clear h1
          go_wp2
          go_quiet (fail)
          go_wp2
          go_roundw
          case rel => exact ⟨q, p % q, q0, h2, q1, by omega, rfl, rfl, by rw [H1.out]; exact HG.out, belowN hb2 _⟩
          case measure => simp [intOf]; omega
    · obtain rfl : k = l.length := by omega
      have e := take_all_int l
      rw [e]; clear e
      go_wp2
      go_ret
      exact ⟨rfl, hb⟩
end Go.Proofs.Ytmfbiohdmhbkoaa

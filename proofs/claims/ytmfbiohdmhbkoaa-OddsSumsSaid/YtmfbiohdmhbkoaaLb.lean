/- The walk of the law OddsRepeats. -/
import Derived.Test.YtmfbiohdmhbkoaaHe
import Derived.Test.YtmfbiohdmhbkoaaRd
namespace Go.Proofs.Ytmfbiohdmhbkoaa
open Go.RowKit

theorem pwL_len (w : List Int) (hl : 0 < w.length) : ∀ p, (pwL w p).length = p * (w.length - 1) + 1
  | 0 => by simp [pwL]
  | p + 1 => by
    show (conv (pwL w p) w).length = _
    rw [conv_len, pwL_len w hl p, Nat.add_mul]; omega
theorem repR_len (l : List Int) (t : Int) : (repR l t).1.length ≤ 4096 := by
  unfold repR
  split
  · simp
  · split
    · simp
    · split
      · simp
      · split
        · simp
        · rename_i h1 h2 h3 h4
          have ok := errW_zero.1 (Classical.not_not.1 h1)
          have hl := ok.pos_len
          obtain ⟨T, rfl⟩ := Int.eq_ofNat_of_zero_le (a := t) (by omega)
          obtain ⟨d, hd⟩ : ∃ d, l.length = d + 1 := ⟨l.length - 1, by omega⟩
          have hmul : (T : Int) * ((l.length : Int) - 1) = ((T * d : Nat) : Int) := by rw [hd]; rw [show ((d + 1 : Nat) : Int) - 1 = (d : Int) by omega, mulNN]
          rw [hmul] at h3
          show (pwL l ((T : Int).toNat)).length ≤ 4096
          rw [Int.toNat_natCast, pwL_len l hl, hd, Nat.add_sub_cancel]
          omega
theorem longB_le {n : Nat} (h : longB n = false) : n ≤ 4200 ∧ (300 < n → 4096 < n) := by
  simp only [longB, Bool.or_eq_false_iff, Bool.and_eq_false_iff, decide_eq_false_iff_not] at h
  omega
set_option maxRecDepth 100000 in
set_option maxHeartbeats 4000000 in
theorem lwrepeats_any (A : Option Addr) (c : Nat) (l : List Int) (t : Int) (w : World) (hz : A = none → c = 0) (hr : Sl intCell 1 w w.heap.size A l) :
    Calls Try.prog 3 #[.slice A l.length c, .int .i64 t] w fun e w' => e = .returned (.bool true) ∧ Below w.heap.size w w' := by
  have hLl := repR_len l t
  obtain ⟨⟨L, er⟩, hx⟩ : ∃ x, repR l t = x := ⟨_, rfl⟩
  have HF := Lib.hid hx
  rw [hx] at hLl
  replace hLl : L.length ≤ 4096 := hLl
  have HR := Lib.hid hr
  clear hx hr
  by_cases hlg : longB l.length = true
  · have HLG := Lib.hid hlg
    clear hlg
    go_enter Try.func3, Try.ntmps3
    go_wp2_with (first | (go_at_call 15; refine (long_any A c l _).mono ?_; rw [HLG.out]; rintro _ _ ⟨rfl, rfl⟩) | (go_at_call 16; refine (known_any _).mono ?_; rintro _ W1 ⟨rfl, hb1⟩))
    go_ret
    exact ⟨rfl, hb1⟩
  · simp only [Bool.not_eq_true] at hlg
    have hle := (longB_le hlg).1
    have HLG := Lib.hid hlg
    have hlen : l.length ≤ 1000000 := by omega
    clear hlg
    by_cases c1 : 100 < l.length
    · have d1 : decide ((100 : Int) < (l.length : Int)) = true := by simp; omega
      by_cases c2 : l.length ≤ 4096
      · have d2 : decide ((l.length : Int) ≤ 4096) = true := by simp; omega
        go_enter Try.func3, Try.ntmps3
        go_wp2_with (first | (go_at_call 15; refine (long_any A c l _).mono ?_; rw [HLG.out]; rintro _ _ ⟨rfl, rfl⟩) | (go_at_call 16; refine (known_any _).mono ?_; rintro _ W1 ⟨rfl, hb1⟩))
        go_ret
        exact ⟨rfl, hb1⟩
      · have d2 : decide ((l.length : Int) ≤ 4096) = false := by simp; omega
        go_enter Try.func3, Try.ntmps3
        go_wp2_with (first | (go_at_call 15; refine (long_any A c l _).mono ?_; rw [HLG.out]; rintro _ _ ⟨rfl, rfl⟩) | (go_at_call 18; refine (own_any A c l _ hlen hz HR.out).mono ?_; rintro _ W1 ⟨A1, c1, rfl, hs1, hz1, hb1⟩) | (go_at_call 17; refine (repeat_any A1 c1 l t W1 (by omega) hz1 hs1).mono ?_; rw [HF.out]; rintro _ W2 ⟨A2, c2, rfl, hs2, -, hb2⟩; refine Hid.out ?_))
        have hw2 := bl2 hb1 hb2
        have HR2 := Lib.hid ((HR.out.below hw2).more hw2.size)
        have HS2 := Lib.hid hs2
        clear hb1 hb2 hs1 hs2 hz1
        refine Lib.hid ?_
        go_wp2_with (go_at_call 19; refine (rrep_any A c l t W2 HR2.out).mono ?_; rw [HF.out]; rintro _ W3 ⟨A3, c3, rfl, hs3, -, hb3⟩; refine Hid.out ?_)
        have hw3 := bl2 hw2 hb3
        have HS2' := Lib.hid ((HS2.out.below hb3).more hb3.size)
        have HS3 := Lib.hid hs3
        clear hb3 hs3 HS2
        refine Lib.hid ?_
        go_wp2_with (first | (go_at_call 20; refine (requal_any A2 A3 c2 c3 L L W3 (by omega) HS2'.out HS3.out).mono ?_; rw [beq_self_eq_true]; rintro _ W4 ⟨rfl, hb4⟩) | (go_at_call 16; refine (known_any _).mono ?_; rintro _ W5 ⟨rfl, hb5⟩))
        go_ret
        exact ⟨rfl, bl2 (bl2 hw3 hb4) hb5⟩
    · have d1 : decide ((100 : Int) < (l.length : Int)) = false := by simp; omega
      go_enter Try.func3, Try.ntmps3
      go_wp2_with (first | (go_at_call 15; refine (long_any A c l _).mono ?_; rw [HLG.out]; rintro _ _ ⟨rfl, rfl⟩) | (go_at_call 18; refine (own_any A c l _ hlen hz HR.out).mono ?_; rintro _ W1 ⟨A1, c1, rfl, hs1, hz1, hb1⟩) | (go_at_call 17; refine (repeat_any A1 c1 l t W1 (by omega) hz1 hs1).mono ?_; rw [HF.out]; rintro _ W2 ⟨A2, c2, rfl, hs2, -, hb2⟩; refine Hid.out ?_))
      have hw2 := bl2 hb1 hb2
      have HR2 := Lib.hid ((HR.out.below hw2).more hw2.size)
      have HS2 := Lib.hid hs2
      clear hb1 hb2 hs1 hs2 hz1
      refine Lib.hid ?_
      go_wp2_with (go_at_call 19; refine (rrep_any A c l t W2 HR2.out).mono ?_; rw [HF.out]; rintro _ W3 ⟨A3, c3, rfl, hs3, -, hb3⟩; refine Hid.out ?_)
      have hw3 := bl2 hw2 hb3
      have HS2' := Lib.hid ((HS2.out.below hb3).more hb3.size)
      have HS3 := Lib.hid hs3
      clear hb3 hs3 HS2
      refine Lib.hid ?_
      go_wp2_with (first | (go_at_call 20; refine (requal_any A2 A3 c2 c3 L L W3 (by omega) HS2'.out HS3.out).mono ?_; rw [beq_self_eq_true]; rintro _ W4 ⟨rfl, hb4⟩) | (go_at_call 16; refine (known_any _).mono ?_; rintro _ W5 ⟨rfl, hb5⟩))
      go_ret
      exact ⟨rfl, bl2 (bl2 hw3 hb4) hb5⟩
end Go.Proofs.Ytmfbiohdmhbkoaa

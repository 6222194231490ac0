/- School: valid rules and schools. -/
import Derived.Test.YtidlmbajpbbilaaScD
import Derived.Deep.RegionHeld3
namespace Go.Proofs.Ytidlmbajpbbilaa
open Go.RowKit

def ascB (num : Int) : Int → List Int → Bool
  | _, [] => true
  | b, n :: l => decide (b < n) && decide (n < num) && ascB num n l
def ruleB (s : Sch) (num : Int) (r : Rul) : Bool :=
  ascB num (-1) r.unless_ && testsB s r.when_ && inB r.kinds 0 (2 ^ s.kinds.toNat - 1) && inB r.rank (-100) 100 && decide (r.unless_.length ≤ 5) && inB r.says 0 (s.answers - 1)

set_option maxRecDepth 100000 in
set_option maxHeartbeats 4000000 in
theorem isRule_any (s : Sch) (R : Value) (num : Int) (r : Rul) (w : World) (hs : Small s) (hk : 1 ≤ s.kinds) (hk' : s.kinds ≤ 4) (ha : 1 ≤ s.answers) (ha' : s.answers ≤ 20) (hr : r.reads w w.heap.size) :
    Calls Try.prog 77 #[scv s R, .int .i64 num, rlv r] w fun e w' => e = .returned (.bool (ruleB s num r)) ∧ Below w.heap.size w w' := by
  obtain ⟨hw1, hw2, hl1, hl2, hok⟩ := hr
  have HT := fun (W : World) (v : Bool) (hv : testsB s r.when_ = v) (hW : Below w.heap.size w W) => Lib.hid (hv ▸ areTests_any s R r.wa r.wc r.when_ W hs hl1 hok ((hw1.below hW).more hW.size))
  have HU := Lib.hid hw2
  have HS := Lib.hid hs
  clear hw1 hw2 hok hs hl1
  obtain ⟨p, sg, k, a, ra, rc, rs⟩ := s
  obtain ⟨wa, wc, ts, kinds, rank, ua, uc, us, says⟩ := r
  simp only at *
  go_enter Try.func77, Try.ntmps77
  go_wp2
  go_loop [7, 13] (fun b i => ∃ (k : Nat) (bb : Int), k ≤ us.length ∧ i = .int .i64 k ∧ b = .int .i64 bb ∧ Hid (ascB num (-1) us = ascB num bb (us.drop k))) (fun _ i => us.length - (intOf i).toNat)
  case atStart => exact ⟨0, -1, by omega, rfl, rfl, rfl⟩
  case round =>
    obtain ⟨i, bb, hi, rfl, rfl, HA⟩ := hrel
    by_cases hlt : i < us.length
    · obtain ⟨ab, ao, rfl, hblk, hcell⟩ := HU.out.at_ (k := i) (fun _ => rfl) hlt
      obtain ⟨n, hn⟩ : ∃ t, us[i] = t := ⟨_, rfl⟩
      rw [hn] at hcell
      have hd : us.drop i = n :: us.drop (i + 1) := by rw [List.drop_eq_getElem_cons hlt, hn]
      have c0 : w.cell? ⟨ab, ao + i, none⟩ = some (.int .i64 n) := by have := hcell 0 _ rfl; simpa using this
      have HA2 : Hid (ascB num (-1) us = (decide (bb < n) && decide (n < num) && ascB num n (us.drop (i + 1)))) := by
        show _ = _
        rw [HA.out, hd]; rfl
      clear hcell hn hd HA
      by_cases h1 : bb < n
      · by_cases h2 : n < num
        · have d1 : decide (n ≤ bb) = false := by simp; omega
          have d2 : decide (num ≤ n) = false := by simp; omega
          go_wp2
          go_round
          case rel => exact ⟨i + 1, n, by omega, by go_num, rfl, by show _ = _; rw [HA2.out]; simp [h1, h2]⟩
          case measure => simp [intOf]; omega
        · have d1 : decide (n ≤ bb) = false := by simp; omega
          have d2 : decide (num ≤ n) = true := by simp; omega
          have HR : Hid (ascB num (-1) us = false) := by show _ = _; rw [HA2.out]; simp [h2]
          go_wp2
          go_ret
          exact ⟨ret_bool (by unfold ruleB; simp only; rw [HR.out]; simp), by (repeat (first | exact Below.refl _ _ | assumption | (refine Below.alloc ?_ (by first | omega | (simp; omega) | (simp; done)) _) | (refine Below.setCell ?_ (by first | omega | (simp; omega) | (simp; done)) _) | (refine Below.drew ?_) | (refine belowN ?_ _) | (refine Below.trans ?_ (Below.mono ‹Below _ _ _› (by first | omega | (simp; omega) | (simp; done))))))⟩
      · have d1 : decide (n ≤ bb) = true := by simp; omega
        have HR : Hid (ascB num (-1) us = false) := by show _ = _; rw [HA2.out]; simp [h1]
        go_wp2
        go_ret
        exact ⟨ret_bool (by unfold ruleB; simp only; rw [HR.out]; simp), by (repeat (first | exact Below.refl _ _ | assumption | (refine Below.alloc ?_ (by first | omega | (simp; omega) | (simp; done)) _) | (refine Below.setCell ?_ (by first | omega | (simp; omega) | (simp; done)) _) | (refine Below.drew ?_) | (refine belowN ?_ _) | (refine Below.trans ?_ (Below.mono ‹Below _ _ _› (by first | omega | (simp; omega) | (simp; done))))))⟩
    · have HR : Hid (ascB num (-1) us = true) := by
        show _ = _
        rw [HA.out, List.drop_eq_nil_of_le (by omega)]; rfl
      clear HA
      have wi : ∀ x : Int, -9223372036854775808 ≤ x → x ≤ 9223372036854775807 → IntKind.i64.wrap x = x := fun x h1 h2 => IntWalk.i64_in x ⟨h1, h2⟩
      have hpk : (1 : Int) ≤ 2 ^ k.toNat ∧ (2 : Int) ^ k.toNat ≤ 16 := by
        obtain rfl | rfl | rfl | rfl : k = 1 ∨ k = 2 ∨ k = 3 ∨ k = 4 := by omega
        all_goals decide
      have s1 := wi (2 ^ k.toNat) (by omega) (by omega)
      have s2 := wi (2 ^ k.toNat - 1) (by omega) (by omega)
      have s3 := wi (a - 1) (by omega) (by omega)
      clear wi
      by_cases b1 : testsB ⟨p, sg, k, a, ra, rc, rs⟩ ts = true
      · by_cases b2 : inB kinds 0 (2 ^ k.toNat - 1) = true
        · by_cases b3 : inB rank (-100) 100 = true
          · by_cases b4 : us.length ≤ 5
            · have d4 : decide ((us.length : Int) ≤ 5) = true := by simp; omega
              have d5 : decide (us.length ≤ 5) = true := by simp; omega
              (go_wp2_with fail; (refine wp_region_ext (by kernel_rfl) (by kernel_rfl) ?_; (repeat (go_big_quiet_step((first | (go_at_call 66; refine Calls.ext_of ((HT _ _ (by assumption) ?_).out); exact Below.ext (by (repeat (first | exact Below.refl _ _ | assumption | (refine Below.alloc ?_ (by first | omega | (simp; omega) | (simp; done)) _) | (refine Below.setCell ?_ (by first | omega | (simp; omega) | (simp; done)) _) | (refine Below.drew ?_) | (refine belowN ?_ _) | (refine Below.trans ?_ (Below.mono ‹Below _ _ _› (by first | omega | (simp; omega) | (simp; done))))))) (by first | omega | (simp; omega) | (simp; done)) _) | (go_at_call 67; first | exact Calls.ext_same (within_val (by assumption) _) | exact Calls.ext_same (within_any _ _ _ _)))))); with_reducible refine wpQuiet_nil ?_; intro w1 hw1; have hb1 := ext_below hw1; clear hw1); go_wp2; go_ret)
              exact ⟨ret_bool (by unfold ruleB; simp only; rw [HR.out, b1, b2, b3]; simp [b4]), by (repeat (first | exact Below.refl _ _ | assumption | (refine Below.alloc ?_ (by first | omega | (simp; omega) | (simp; done)) _) | (refine Below.setCell ?_ (by first | omega | (simp; omega) | (simp; done)) _) | (refine Below.drew ?_) | (refine belowN ?_ _) | (refine Below.trans ?_ (Below.mono ‹Below _ _ _› (by first | omega | (simp; omega) | (simp; done))))))⟩
            · have d4 : decide ((us.length : Int) ≤ 5) = false := by simp; omega
              have d5 : decide (us.length ≤ 5) = false := by simp; omega
              (go_wp2_with fail; (refine wp_region_ext (by kernel_rfl) (by kernel_rfl) ?_; (repeat (go_big_quiet_step((first | (go_at_call 66; refine Calls.ext_of ((HT _ _ (by assumption) ?_).out); exact Below.ext (by (repeat (first | exact Below.refl _ _ | assumption | (refine Below.alloc ?_ (by first | omega | (simp; omega) | (simp; done)) _) | (refine Below.setCell ?_ (by first | omega | (simp; omega) | (simp; done)) _) | (refine Below.drew ?_) | (refine belowN ?_ _) | (refine Below.trans ?_ (Below.mono ‹Below _ _ _› (by first | omega | (simp; omega) | (simp; done))))))) (by first | omega | (simp; omega) | (simp; done)) _) | (go_at_call 67; first | exact Calls.ext_same (within_val (by assumption) _) | exact Calls.ext_same (within_any _ _ _ _)))))); with_reducible refine wpQuiet_nil ?_; intro w1 hw1; have hb1 := ext_below hw1; clear hw1); go_wp2; go_ret)
              exact ⟨ret_bool (by unfold ruleB; simp only; rw [HR.out, b1, b2, b3]; simp [b4]), by (repeat (first | exact Below.refl _ _ | assumption | (refine Below.alloc ?_ (by first | omega | (simp; omega) | (simp; done)) _) | (refine Below.setCell ?_ (by first | omega | (simp; omega) | (simp; done)) _) | (refine Below.drew ?_) | (refine belowN ?_ _) | (refine Below.trans ?_ (Below.mono ‹Below _ _ _› (by first | omega | (simp; omega) | (simp; done))))))⟩
          · simp only [Bool.not_eq_true] at b3
            (go_wp2_with fail; (refine wp_region_ext (by kernel_rfl) (by kernel_rfl) ?_; (repeat (go_big_quiet_step((first | (go_at_call 66; refine Calls.ext_of ((HT _ _ (by assumption) ?_).out); exact Below.ext (by (repeat (first | exact Below.refl _ _ | assumption | (refine Below.alloc ?_ (by first | omega | (simp; omega) | (simp; done)) _) | (refine Below.setCell ?_ (by first | omega | (simp; omega) | (simp; done)) _) | (refine Below.drew ?_) | (refine belowN ?_ _) | (refine Below.trans ?_ (Below.mono ‹Below _ _ _› (by first | omega | (simp; omega) | (simp; done))))))) (by first | omega | (simp; omega) | (simp; done)) _) | (go_at_call 67; first | exact Calls.ext_same (within_val (by assumption) _) | exact Calls.ext_same (within_any _ _ _ _)))))); with_reducible refine wpQuiet_nil ?_; intro w1 hw1; have hb1 := ext_below hw1; clear hw1); go_wp2; go_ret)
            exact ⟨ret_bool (by unfold ruleB; simp [b3]), by (repeat (first | exact Below.refl _ _ | assumption | (refine Below.alloc ?_ (by first | omega | (simp; omega) | (simp; done)) _) | (refine Below.setCell ?_ (by first | omega | (simp; omega) | (simp; done)) _) | (refine Below.drew ?_) | (refine belowN ?_ _) | (refine Below.trans ?_ (Below.mono ‹Below _ _ _› (by first | omega | (simp; omega) | (simp; done))))))⟩
        · simp only [Bool.not_eq_true] at b2
          (go_wp2_with fail; (refine wp_region_ext (by kernel_rfl) (by kernel_rfl) ?_; (repeat (go_big_quiet_step((first | (go_at_call 66; refine Calls.ext_of ((HT _ _ (by assumption) ?_).out); exact Below.ext (by (repeat (first | exact Below.refl _ _ | assumption | (refine Below.alloc ?_ (by first | omega | (simp; omega) | (simp; done)) _) | (refine Below.setCell ?_ (by first | omega | (simp; omega) | (simp; done)) _) | (refine Below.drew ?_) | (refine belowN ?_ _) | (refine Below.trans ?_ (Below.mono ‹Below _ _ _› (by first | omega | (simp; omega) | (simp; done))))))) (by first | omega | (simp; omega) | (simp; done)) _) | (go_at_call 67; first | exact Calls.ext_same (within_val (by assumption) _) | exact Calls.ext_same (within_any _ _ _ _)))))); with_reducible refine wpQuiet_nil ?_; intro w1 hw1; have hb1 := ext_below hw1; clear hw1); go_wp2; go_ret)
          exact ⟨ret_bool (by unfold ruleB; simp only; rw [b2]; simp), by (repeat (first | exact Below.refl _ _ | assumption | (refine Below.alloc ?_ (by first | omega | (simp; omega) | (simp; done)) _) | (refine Below.setCell ?_ (by first | omega | (simp; omega) | (simp; done)) _) | (refine Below.drew ?_) | (refine belowN ?_ _) | (refine Below.trans ?_ (Below.mono ‹Below _ _ _› (by first | omega | (simp; omega) | (simp; done))))))⟩
      · simp only [Bool.not_eq_true] at b1
        (go_wp2_with fail; (refine wp_region_ext (by kernel_rfl) (by kernel_rfl) ?_; (repeat (go_big_quiet_step((first | (go_at_call 66; refine Calls.ext_of ((HT _ _ (by assumption) ?_).out); exact Below.ext (by (repeat (first | exact Below.refl _ _ | assumption | (refine Below.alloc ?_ (by first | omega | (simp; omega) | (simp; done)) _) | (refine Below.setCell ?_ (by first | omega | (simp; omega) | (simp; done)) _) | (refine Below.drew ?_) | (refine belowN ?_ _) | (refine Below.trans ?_ (Below.mono ‹Below _ _ _› (by first | omega | (simp; omega) | (simp; done))))))) (by first | omega | (simp; omega) | (simp; done)) _) | (go_at_call 67; first | exact Calls.ext_same (within_val (by assumption) _) | exact Calls.ext_same (within_any _ _ _ _)))))); with_reducible refine wpQuiet_nil ?_; intro w1 hw1; have hb1 := ext_below hw1; clear hw1); go_wp2; go_ret)
        exact ⟨ret_bool (by unfold ruleB; simp only; rw [b1]; simp), by (repeat (first | exact Below.refl _ _ | assumption | (refine Below.alloc ?_ (by first | omega | (simp; omega) | (simp; done)) _) | (refine Below.setCell ?_ (by first | omega | (simp; omega) | (simp; done)) _) | (refine Below.drew ?_) | (refine belowN ?_ _) | (refine Below.trans ?_ (Below.mono ‹Below _ _ _› (by first | omega | (simp; omega) | (simp; done))))))⟩
end Go.Proofs.Ytidlmbajpbbilaa

/- The reference's Fair. -/
import Derived.Test.YtmfbiohdmhbkoaaGm
namespace Go.Proofs.Ytmfbiohdmhbkoaa
open Go.RowKit

theorem fairGo_sub {s b : Int} {l : List Int} {size value used : Int} : fairGo s b l (size - b) (value - b) used = fairGo s b l size value used := by
  have e : (size - b) % b = size % b := Int.sub_emod_right size b
  have e2 : (value - b) % b = value % b := Int.sub_emod_right value b
  have e3 : size - b - size % b = size - size % b - b := by omega
  have e4 : value - b - (size - b - size % b) = value - (size - size % b) := by omega
  cases l with
  | nil => simp only [fairGo, e, e2]; congr 1; simp only [eq_iff_iff]; omega
  | cons t l => simp only [fairGo, e, e2, e4]; congr 1; simp only [eq_iff_iff]; omega
set_option maxRecDepth 100000 in
set_option maxHeartbeats 8000000 in
theorem rfair_any (A : Option Addr) (c : Nat) (l : List Int) (s m : Int) (w : World) (hm : l.length ≤ 1000000) (hr : Sl intCell 1 w w.heap.size A l) :
    Calls Try.prog 24 #[.int .i64 s, .int .i64 m, .slice A l.length c] w (Ret3 (fairR s m l) w) := by
  by_cases hs : s < 2 ∨ 1000000 < s ∨ m < 1 ∨ 1000000 < m
  · have HT : Hid (fairR s m l = (0, 0, 3)) := (by rw [fairR_any, if_pos hs] : fairR s m l = _)
    obtain ⟨a, ha⟩ : ∃ a, decide (s < 2) = a := ⟨_, rfl⟩
    obtain ⟨b, hb⟩ : ∃ b, decide (1000000 < s) = b := ⟨_, rfl⟩
    obtain ⟨d, hd⟩ : ∃ d, decide (m < 1) = d := ⟨_, rfl⟩
    obtain ⟨e, he⟩ : ∃ e, decide (1000000 < m) = e := ⟨_, rfl⟩
    have hor : (a || b || d || e) = true := by
      rw [← ha, ← hb, ← hd, ← he]
      simp only [Bool.or_eq_true, decide_eq_true_eq]
      rcases hs with h | h | h | h <;> simp [h]
    clear hr hs
    cases a <;> cases b <;> cases d <;> cases e <;> first | (exfalso; revert hor; simp; done) | (
      clear hor
      go_enter Try.func24, Try.ntmps24
      go_wp2
      refine bodyPost_ret (v := .tuple #[.int .i64 0, .int .i64 0, .int .i64 3]) (by simp [results, Try.results24, go_sem]) rfl ⟨by rw [HT.out], by (repeat (first | exact Below.refl _ _ | assumption | (refine Below.alloc ?_ (by first | omega | (simp; omega) | (simp; done)) _) | (refine Below.setCell ?_ (by first | omega | (simp; omega) | (simp; done)) _) | (refine Below.drew ?_) | (refine belowN ?_ _) | (refine Below.trans ?_ (Below.mono ‹Below _ _ _› (by first | omega | (simp; omega) | (simp; done))))))⟩)
  · have a1 : decide (s < 2) = false := by simp; omega
    have a2 : decide (1000000 < s) = false := by simp; omega
    have a3 : decide (m < 1) = false := by simp; omega
    have a4 : decide (1000000 < m) = false := by simp; omega
    have s1 : 2 ≤ s := by omega
    have s2 : s ≤ 1000000 := by omega
    have m1 : 1 ≤ m := by omega
    have m2 : m ≤ 1000000 := by omega
    by_cases hl : 10000 < l.length
    · have HT : Hid (fairR s m l = (0, 0, 5)) := (by rw [fairR_any, if_neg hs, if_pos hl] : fairR s m l = _)
      clear hr hs
      go_enter Try.func24, Try.ntmps24
      go_wp2
      refine bodyPost_ret (v := .tuple #[.int .i64 0, .int .i64 0, .int .i64 5]) (by simp [results, Try.results24, go_sem]) rfl ⟨by rw [HT.out], by (repeat (first | exact Below.refl _ _ | assumption | (refine Below.alloc ?_ (by first | omega | (simp; omega) | (simp; done)) _) | (refine Below.setCell ?_ (by first | omega | (simp; omega) | (simp; done)) _) | (refine Below.drew ?_) | (refine belowN ?_ _) | (refine Below.trans ?_ (Below.mono ‹Below _ _ _› (by first | omega | (simp; omega) | (simp; done))))))⟩
    · have d5 : decide (10000 < l.length) = false := by simpa using hl
      have d6 : decide ((10000 : Int) < (l.length : Int)) = false := by simp; omega
      have HR := Lib.hid hr
      have HBAD := Lib.hid (fun (k : Nat) (h : k < l.length) (hb : l[k] < 0 ∨ s ≤ l[k]) => (show fairR s m l = (0, 0, 2) by
        have hany : l.any (badT s) = true := List.any_eq_true.2 ⟨l[k], List.getElem_mem h, by simp [badT]; omega⟩
        rw [fairR_any, if_neg hs, if_neg hl, if_pos hany]))
      have HGOOD := Lib.hid (fun (h : ∀ x ∈ l, 0 ≤ x ∧ x < s) => (show fairR s m l = fairGo s m l 1 0 0 by
        have hany : ¬ l.any (badT s) = true := by
          rw [Bool.not_eq_true, List.any_eq_false]
          intro x hx
          have := h x hx
          simp [badT]; omega
        rw [fairR_any, if_neg hs, if_neg hl, if_neg hany]))
      clear hr hs hl
      go_enter Try.func24, Try.ntmps24
      go_wp2
      go_loop [9] (fun i => ∃ k : Nat, k ≤ l.length ∧ i = .int .i64 k ∧ Hid (∀ x ∈ l.take k, 0 ≤ x ∧ x < s)) (fun i => l.length - (intOf i).toNat)
      case atStart => exact ⟨0, by omega, rfl, fun x hx => by simp at hx⟩
      case round =>
        obtain ⟨k, hk, rfl, hn⟩ := hrel
        by_cases hlt : k < l.length
        · obtain ⟨ab, ao, rfl, hblk, hc⟩ := HR.out.int_at hlt
          have HB := Lib.hid (HBAD.out k hlt)
          have HT := Lib.hid (take_snoc_int l k hlt)
          obtain ⟨x, hx⟩ : ∃ x, x = l[k] := ⟨_, rfl⟩
          rw [← hx] at hc HB HT
          clear hx
          have hk0 : (0 : Int) ≤ (k : Int) := by omega
          have hk1 : (k : Int) < (l.length : Int) := by omega
          by_cases x0 : x < 0
          · have HZ := Lib.hid (HB.out (.inl x0))
            have e0 : decide (x < 0) = true := by simpa using x0
            go_wp2
            refine bodyPost_ret (v := .tuple #[.int .i64 0, .int .i64 0, .int .i64 2]) (by simp [results, Try.results24, go_sem]) rfl ⟨by rw [HZ.out], by (repeat (first | exact Below.refl _ _ | assumption | (refine Below.alloc ?_ (by first | omega | (simp; omega) | (simp; done)) _) | (refine Below.setCell ?_ (by first | omega | (simp; omega) | (simp; done)) _) | (refine Below.drew ?_) | (refine belowN ?_ _) | (refine Below.trans ?_ (Below.mono ‹Below _ _ _› (by first | omega | (simp; omega) | (simp; done))))))⟩
          · have e0 : decide (x < 0) = false := by simpa using x0
            by_cases x1 : s ≤ x
            · have HZ := Lib.hid (HB.out (.inr x1))
              have e1 : decide (s ≤ x) = true := by simpa using x1
              go_wp2
              refine bodyPost_ret (v := .tuple #[.int .i64 0, .int .i64 0, .int .i64 2]) (by simp [results, Try.results24, go_sem]) rfl ⟨by rw [HZ.out], by (repeat (first | exact Below.refl _ _ | assumption | (refine Below.alloc ?_ (by first | omega | (simp; omega) | (simp; done)) _) | (refine Below.setCell ?_ (by first | omega | (simp; omega) | (simp; done)) _) | (refine Below.drew ?_) | (refine belowN ?_ _) | (refine Below.trans ?_ (Below.mono ‹Below _ _ _› (by first | omega | (simp; omega) | (simp; done))))))⟩
            · have e1 : decide (s ≤ x) = false := by simpa using x1
              go_wp2
              go_round
              case rel => exact ⟨k + 1, by omega, by go_num, fun z hz => by
                rw [HT.out] at hz
                rcases List.mem_append.1 hz with h | h
                · exact hn.out z h
                · simp at h; omega⟩
              case measure => simp [intOf]; omega
        · obtain rfl : k = l.length := by omega
          have HOK : Hid (∀ x ∈ l, 0 ≤ x ∧ x < s) := (by have h := hn.out; rw [List.take_length] at h; exact h : ∀ x ∈ l, 0 ≤ x ∧ x < s)
          have HT0 := Lib.hid (HGOOD.out HOK.out)
          clear hn HGOOD HBAD
          go_wp2
          go_loopw [10, 11, 12] (fun a b c wr => ∃ (u : Nat) (size value : Int), a = .int .i64 size ∧ b = .int .i64 value ∧ c = .int .i64 u ∧ u ≤ l.length ∧ 0 ≤ value ∧ value < size ∧ size ≤ 1000000000000 ∧ Below w.heap.size w wr ∧ Hid (fairR s m l = fairGo s m (l.drop u) size value u)) (fun _ _ c _ => l.length - (intOf c).toNat)
          case atStart => exact ⟨0, 1, 0, rfl, rfl, rfl, by omega, by omega, by omega, by omega, Below.refl _ _, HT0⟩
          case round =>
            obtain ⟨u, size, value, rfl, rfl, rfl, hu, v0, v1, v2, hbr, HT⟩ := hrel
            clear HT0
            obtain ⟨wo, rfl⟩ : ∃ wo : World, wo = wr := ⟨_, rfl⟩
            have HT1 := HT
            go_wp2
            go_loop [10, 11] (fun a b => ∃ (size value : Int), a = .int .i64 size ∧ b = .int .i64 value ∧ 0 ≤ value ∧ value < size ∧ size ≤ 1000000000000 ∧ Hid (fairR s m l = fairGo s m (l.drop u) size value u)) (fun a _ => (intOf a).toNat)
            case atStart => exact ⟨size, value, rfl, rfl, v0, v1, v2, HT1⟩
            case round =>
              clear HT HT1 v0 v1 v2
              obtain ⟨sz, vl, rfl, rfl, v0, v1, v2, HT⟩ := hrel
              by_cases hge : m ≤ sz
              · by_cases hlt2 : vl < m
                · have HY : Hid (fairR s m l = (vl, (u : Int), 0)) := (by
                    have r0 := Int.emod_lt_of_pos sz (show 0 < m by omega)
                    have r1 : vl < sz - sz % m := by
                      have := Int.mul_ediv_add_emod sz m
                      have h1 : 1 ≤ sz / m := Int.le_ediv_of_mul_le (by omega) (by omega)
                      have h2 := Int.mul_le_mul_of_nonneg_left h1 (show 0 ≤ m by omega)
                      omega
                    rw [HT.out, fairGo_yes r1, Int.emod_eq_of_lt v0 hlt2] : fairR s m l = _)
                  go_wp2
                  exact bodyPost_ret (v := .tuple #[.int .i64 vl, .int .i64 u, .int .i64 0]) (by simp [results, Try.results24, go_sem]) rfl ⟨by rw [HY.out], hbr⟩
                · have HN : Hid (fairR s m l = fairGo s m (l.drop u) (sz - m) (vl - m) u) := (by rw [HT.out, fairGo_sub] : fairR s m l = _)
                  have g1 : m ≤ vl := by omega
                  go_wp2
                  go_round
                  case rel => exact ⟨sz - m, vl - m, by go_num, by go_num, by omega, by omega, by omega, HN⟩
                  case measure => simp [intOf]; omega
              · have hsm : sz % m = sz := Int.emod_eq_of_lt (by omega) (by omega)
                have hno : ¬ vl < sz - sz % m := by omega
                by_cases hul : u < l.length
                · obtain ⟨ab, ao, rfl, hblk, hc⟩ := (HR.out.below hbr).int_at hul
                  obtain ⟨y0, y1⟩ := HOK.out _ (List.getElem_mem hul)
                  obtain ⟨z1, z2, z3, -, -, -, -⟩ := fair_step (t := l[u]) m1 m2 s1 s2 v0 v1 hno y0 y1
                  have HN : Hid (fairR s m l = fairGo s m (l.drop (u + 1)) (sz * s) (vl * s + l[u]) ((u : Int) + 1)) := (by rw [HT.out, List.drop_eq_getElem_cons hul, fairGo_cons hno, hsm, show vl - (sz - sz) = vl by omega] : fairR s m l = _)
                  rw [hsm, show vl - (sz - sz) = vl by omega] at z1 z2
                  rw [hsm] at z3
                  obtain ⟨x, hx⟩ : ∃ x, x = l[u] := ⟨_, rfl⟩
                  rw [← hx] at hc HN y0 y1 z1 z2
                  have p0 : 0 ≤ sz * s := Int.mul_nonneg (by omega) (by omega)
                  have p1 : 0 ≤ vl * s := Int.mul_nonneg v0 (by omega)
                  clear hx hsm hno HT
                  have hk0 : (0 : Int) ≤ (u : Int) := by omega
                  have hk1 : (u : Int) < (l.length : Int) := by omega
                  have du : ((u : Int) == (l.length : Int)) = false := by simp; omega
                  go_wp2
                  go_region
                  all_goals (
                    go_wp2
                    go_roundw
                    case rel => exact ⟨u + 1, sz * s, vl * s + x, by go_num, by go_num, by go_num, by omega, z1, z2, z3, by (repeat (first | exact Below.refl _ _ | assumption | (refine Below.alloc ?_ (by first | omega | (simp; omega) | (simp; done)) _) | (refine Below.setCell ?_ (by first | omega | (simp; omega) | (simp; done)) _) | (refine Below.drew ?_) | (refine belowN ?_ _) | (refine Below.trans ?_ (Below.mono ‹Below _ _ _› (by first | omega | (simp; omega) | (simp; done)))))), HN⟩
                    case measure => simp [intOf] <;> omega)
                · obtain rfl : u = l.length := by omega
                  have HY : Hid (fairR s m l = (0, 0, 7)) := (by rw [HT.out, List.drop_length, fairGo_nil hno] : fairR s m l = _)
                  clear hsm hno HT
                  go_wp2
                  exact bodyPost_ret (v := .tuple #[.int .i64 0, .int .i64 0, .int .i64 7]) (by simp [results, Try.results24, go_sem]) rfl ⟨by rw [HY.out], hbr⟩
end Go.Proofs.Ytmfbiohdmhbkoaa

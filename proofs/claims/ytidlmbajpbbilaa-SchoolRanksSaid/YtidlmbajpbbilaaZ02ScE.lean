/- School: valid rules and schools. -/
import Derived.Test.YtidlmbajpbbilaaZ01ScB
import Derived.Deep.RegionHeld3
import Derived.Test.YtidlmbajpbbilaaZ00Mem
import Derived.Lib.BitFns
namespace Go.Proofs.Ytidlmbajpbbilaa
open Go.RowKit

def ascB (num : Int) : Int → List Int → Bool
  | _, [] => true
  | b, n :: l => decide (b < n) && decide (n < num) && ascB num n l
def ruleB (s : Sch) (num : Int) (r : Rul) : Bool :=
  ascB num (-1) r.unless_ && testsB s r.when_ && inB r.kinds 0 (2 ^ s.kinds.toNat - 1) && inB r.rank (-100) 100 && decide (r.unless_.length ≤ 5) && inB r.says 0 (s.answers - 1)

set_option maxRecDepth 100000 in
set_option maxHeartbeats 4000000 in
theorem isRule_any (s : Sch) (R : Value) (num : Int) (r : Rul) (w : World) (hs : Small s) (hk : 1 ≤ s.kinds) (hk' : s.kinds ≤ 4) (ha : 1 ≤ s.answers) (ha' : s.answers ≤ 20) (hr : r.reads w w.heap.size) :
    Calls Try.prog 77 #[scv s R, .int .i64 num, rlv r] w fun e w' => e = .returned (.bool (ruleB s num r)) ∧ Below w.heap.size w w' := by
  obtain ⟨hw1, hw2, hl1, hl2, hok⟩ := hr
  have HT := fun (W : World) (v : Bool) (hv : testsB s r.when_ = v) (hW : Below w.heap.size w W) => Lib.hid (hv ▸ areTests_any s R r.wa r.wc r.when_ W hs hl1 hok ((hw1.below hW).more hW.size))
  have HU := Lib.hid hw2
  have HS := Lib.hid hs
  clear hw1 hw2 hok hs hl1
  obtain ⟨p, sg, k, a, ra, rc, rs⟩ := s
  obtain ⟨wa, wc, ts, kinds, rank, ua, uc, us, says⟩ := r
  simp only at *
  go_enter Try.func77, Try.ntmps77
  go_wp2
  go_loop [7, 13] (fun b i => ∃ (k : Nat) (bb : Int), k ≤ us.length ∧ i = .int .i64 k ∧ b = .int .i64 bb ∧ Hid (ascB num (-1) us = ascB num bb (us.drop k))) (fun _ i => us.length - (intOf i).toNat)
  case atStart => exact ⟨0, -1, by omega, rfl, rfl, rfl⟩
  case round =>
    obtain ⟨i, bb, hi, rfl, rfl, HA⟩ := hrel
    by_cases hlt : i < us.length
    · obtain ⟨ab, ao, rfl, hblk, hcell⟩ := HU.out.at_ (k := i) (fun _ => rfl) hlt
      obtain ⟨n, hn⟩ : ∃ t, us[i] = t := ⟨_, rfl⟩
      rw [hn] at hcell
      have hd : us.drop i = n :: us.drop (i + 1) := by rw [List.drop_eq_getElem_cons hlt, hn]
      have c0 : w.cell? ⟨ab, ao + i, none⟩ = some (.int .i64 n) := by have := hcell 0 _ rfl; simpa using this
      have HA2 : Hid (ascB num (-1) us = (decide (bb < n) && decide (n < num) && ascB num n (us.drop (i + 1)))) := by
        show _ = _
        rw [HA.out, hd]; rfl
      clear hcell hn hd HA
      by_cases h1 : bb < n
      · by_cases h2 : n < num
        · have d1 : decide (n ≤ bb) = false := by simp; omega
          have d2 : decide (num ≤ n) = false := by simp; omega
          go_wp2
          go_round
          case rel => exact ⟨i + 1, n, by omega, by go_num, rfl, by show _ = _; rw [HA2.out]; simp [h1, h2]⟩
          case measure => simp [intOf]; omega
        · have d1 : decide (n ≤ bb) = false := by simp; omega
          have d2 : decide (num ≤ n) = true := by simp; omega
          have HR : Hid (ascB num (-1) us = false) := by show _ = _; rw [HA2.out]; simp [h2]
          go_wp2
          go_ret
          exact ⟨ret_bool (by unfold ruleB; simp only; rw [HR.out]; simp), by (repeat (first | exact Below.refl _ _ | assumption | (refine Below.alloc ?_ (by first | omega | (simp; omega) | (simp; done)) _) | (refine Below.setCell ?_ (by first | omega | (simp; omega) | (simp; done)) _) | (refine Below.drew ?_) | (refine belowN ?_ _) | (refine Below.trans ?_ (Below.mono ‹Below _ _ _› (by first | omega | (simp; omega) | (simp; done))))))⟩
      · have d1 : decide (n ≤ bb) = true := by simp; omega
        have HR : Hid (ascB num (-1) us = false) := by show _ = _; rw [HA2.out]; simp [h1]
        go_wp2
        go_ret
        exact ⟨ret_bool (by unfold ruleB; simp only; rw [HR.out]; simp), by (repeat (first | exact Below.refl _ _ | assumption | (refine Below.alloc ?_ (by first | omega | (simp; omega) | (simp; done)) _) | (refine Below.setCell ?_ (by first | omega | (simp; omega) | (simp; done)) _) | (refine Below.drew ?_) | (refine belowN ?_ _) | (refine Below.trans ?_ (Below.mono ‹Below _ _ _› (by first | omega | (simp; omega) | (simp; done))))))⟩
    · have HR : Hid (ascB num (-1) us = true) := by
        show _ = _
        rw [HA.out, List.drop_eq_nil_of_le (by omega)]; rfl
      clear HA
      have wi : ∀ x : Int, -9223372036854775808 ≤ x → x ≤ 9223372036854775807 → IntKind.i64.wrap x = x := fun x h1 h2 => IntWalk.i64_in x ⟨h1, h2⟩
      have hpk : (1 : Int) ≤ 2 ^ k.toNat ∧ (2 : Int) ^ k.toNat ≤ 16 := by
        obtain rfl | rfl | rfl | rfl : k = 1 ∨ k = 2 ∨ k = 3 ∨ k = 4 := by omega
        all_goals decide
      have s1 := wi (2 ^ k.toNat) (by omega) (by omega)
      have s2 := wi (2 ^ k.toNat - 1) (by omega) (by omega)
      have s3 := wi (a - 1) (by omega) (by omega)
      clear wi
      by_cases b1 : testsB ⟨p, sg, k, a, ra, rc, rs⟩ ts = true
      · by_cases b2 : inB kinds 0 (2 ^ k.toNat - 1) = true
        · by_cases b3 : inB rank (-100) 100 = true
          · by_cases b4 : us.length ≤ 5
            · have d4 : decide ((us.length : Int) ≤ 5) = true := by simp; omega
              have d5 : decide (us.length ≤ 5) = true := by simp; omega
              (go_wp2_with fail; (refine wp_region_ext (by kernel_rfl) (by kernel_rfl) ?_; (repeat (go_big_quiet_step((first | (go_at_call 66; refine Calls.ext_of ((HT _ _ (by assumption) ?_).out); exact Below.ext (by (repeat (first | exact Below.refl _ _ | assumption | (refine Below.alloc ?_ (by first | omega | (simp; omega) | (simp; done)) _) | (refine Below.setCell ?_ (by first | omega | (simp; omega) | (simp; done)) _) | (refine Below.drew ?_) | (refine belowN ?_ _) | (refine Below.trans ?_ (Below.mono ‹Below _ _ _› (by first | omega | (simp; omega) | (simp; done))))))) (by first | omega | (simp; omega) | (simp; done)) _) | (go_at_call 67; first | exact Calls.ext_same (within_val (by assumption) _) | exact Calls.ext_same (within_any _ _ _ _)))))); with_reducible refine wpQuiet_nil ?_; intro w1 hw1; have hb1 := ext_below hw1; clear hw1); go_wp2; go_ret)
              exact ⟨ret_bool (by unfold ruleB; simp only; rw [HR.out, b1, b2, b3]; simp [b4]), by (repeat (first | exact Below.refl _ _ | assumption | (refine Below.alloc ?_ (by first | omega | (simp; omega) | (simp; done)) _) | (refine Below.setCell ?_ (by first | omega | (simp; omega) | (simp; done)) _) | (refine Below.drew ?_) | (refine belowN ?_ _) | (refine Below.trans ?_ (Below.mono ‹Below _ _ _› (by first | omega | (simp; omega) | (simp; done))))))⟩
            · have d4 : decide ((us.length : Int) ≤ 5) = false := by simp; omega
              have d5 : decide (us.length ≤ 5) = false := by simp; omega
              (go_wp2_with fail; (refine wp_region_ext (by kernel_rfl) (by kernel_rfl) ?_; (repeat (go_big_quiet_step((first | (go_at_call 66; refine Calls.ext_of ((HT _ _ (by assumption) ?_).out); exact Below.ext (by (repeat (first | exact Below.refl _ _ | assumption | (refine Below.alloc ?_ (by first | omega | (simp; omega) | (simp; done)) _) | (refine Below.setCell ?_ (by first | omega | (simp; omega) | (simp; done)) _) | (refine Below.drew ?_) | (refine belowN ?_ _) | (refine Below.trans ?_ (Below.mono ‹Below _ _ _› (by first | omega | (simp; omega) | (simp; done))))))) (by first | omega | (simp; omega) | (simp; done)) _) | (go_at_call 67; first | exact Calls.ext_same (within_val (by assumption) _) | exact Calls.ext_same (within_any _ _ _ _)))))); with_reducible refine wpQuiet_nil ?_; intro w1 hw1; have hb1 := ext_below hw1; clear hw1); go_wp2; go_ret)
              exact ⟨ret_bool (by unfold ruleB; simp only; rw [HR.out, b1, b2, b3]; simp [b4]), by (repeat (first | exact Below.refl _ _ | assumption | (refine Below.alloc ?_ (by first | omega | (simp; omega) | (simp; done)) _) | (refine Below.setCell ?_ (by first | omega | (simp; omega) | (simp; done)) _) | (refine Below.drew ?_) | (refine belowN ?_ _) | (refine Below.trans ?_ (Below.mono ‹Below _ _ _› (by first | omega | (simp; omega) | (simp; done))))))⟩
          · simp only [Bool.not_eq_true] at b3
            (go_wp2_with fail; (refine wp_region_ext (by kernel_rfl) (by kernel_rfl) ?_; (repeat (go_big_quiet_step((first | (go_at_call 66; refine Calls.ext_of ((HT _ _ (by assumption) ?_).out); exact Below.ext (by (repeat (first | exact Below.refl _ _ | assumption | (refine Below.alloc ?_ (by first | omega | (simp; omega) | (simp; done)) _) | (refine Below.setCell ?_ (by first | omega | (simp; omega) | (simp; done)) _) | (refine Below.drew ?_) | (refine belowN ?_ _) | (refine Below.trans ?_ (Below.mono ‹Below _ _ _› (by first | omega | (simp; omega) | (simp; done))))))) (by first | omega | (simp; omega) | (simp; done)) _) | (go_at_call 67; first | exact Calls.ext_same (within_val (by assumption) _) | exact Calls.ext_same (within_any _ _ _ _)))))); with_reducible refine wpQuiet_nil ?_; intro w1 hw1; have hb1 := ext_below hw1; clear hw1); go_wp2; go_ret)
            exact ⟨ret_bool (by unfold ruleB; simp [b3]), by (repeat (first | exact Below.refl _ _ | assumption | (refine Below.alloc ?_ (by first | omega | (simp; omega) | (simp; done)) _) | (refine Below.setCell ?_ (by first | omega | (simp; omega) | (simp; done)) _) | (refine Below.drew ?_) | (refine belowN ?_ _) | (refine Below.trans ?_ (Below.mono ‹Below _ _ _› (by first | omega | (simp; omega) | (simp; done))))))⟩
        · simp only [Bool.not_eq_true] at b2
          (go_wp2_with fail; (refine wp_region_ext (by kernel_rfl) (by kernel_rfl) ?_; (repeat (go_big_quiet_step((first | (go_at_call 66; refine Calls.ext_of ((HT _ _ (by assumption) ?_).out); exact Below.ext (by (repeat (first | exact Below.refl _ _ | assumption | (refine Below.alloc ?_ (by first | omega | (simp; omega) | (simp; done)) _) | (refine Below.setCell ?_ (by first | omega | (simp; omega) | (simp; done)) _) | (refine Below.drew ?_) | (refine belowN ?_ _) | (refine Below.trans ?_ (Below.mono ‹Below _ _ _› (by first | omega | (simp; omega) | (simp; done))))))) (by first | omega | (simp; omega) | (simp; done)) _) | (go_at_call 67; first | exact Calls.ext_same (within_val (by assumption) _) | exact Calls.ext_same (within_any _ _ _ _)))))); with_reducible refine wpQuiet_nil ?_; intro w1 hw1; have hb1 := ext_below hw1; clear hw1); go_wp2; go_ret)
          exact ⟨ret_bool (by unfold ruleB; simp only; rw [b2]; simp), by (repeat (first | exact Below.refl _ _ | assumption | (refine Below.alloc ?_ (by first | omega | (simp; omega) | (simp; done)) _) | (refine Below.setCell ?_ (by first | omega | (simp; omega) | (simp; done)) _) | (refine Below.drew ?_) | (refine belowN ?_ _) | (refine Below.trans ?_ (Below.mono ‹Below _ _ _› (by first | omega | (simp; omega) | (simp; done))))))⟩
      · simp only [Bool.not_eq_true] at b1
        (go_wp2_with fail; (refine wp_region_ext (by kernel_rfl) (by kernel_rfl) ?_; (repeat (go_big_quiet_step((first | (go_at_call 66; refine Calls.ext_of ((HT _ _ (by assumption) ?_).out); exact Below.ext (by (repeat (first | exact Below.refl _ _ | assumption | (refine Below.alloc ?_ (by first | omega | (simp; omega) | (simp; done)) _) | (refine Below.setCell ?_ (by first | omega | (simp; omega) | (simp; done)) _) | (refine Below.drew ?_) | (refine belowN ?_ _) | (refine Below.trans ?_ (Below.mono ‹Below _ _ _› (by first | omega | (simp; omega) | (simp; done))))))) (by first | omega | (simp; omega) | (simp; done)) _) | (go_at_call 67; first | exact Calls.ext_same (within_val (by assumption) _) | exact Calls.ext_same (within_any _ _ _ _)))))); with_reducible refine wpQuiet_nil ?_; intro w1 hw1; have hb1 := ext_below hw1; clear hw1); go_wp2; go_ret)
        exact ⟨ret_bool (by unfold ruleB; simp only; rw [b1]; simp), by (repeat (first | exact Below.refl _ _ | assumption | (refine Below.alloc ?_ (by first | omega | (simp; omega) | (simp; done)) _) | (refine Below.setCell ?_ (by first | omega | (simp; omega) | (simp; done)) _) | (refine Below.drew ?_) | (refine belowN ?_ _) | (refine Below.trans ?_ (Below.mono ‹Below _ _ _› (by first | omega | (simp; omega) | (simp; done))))))⟩
end Go.Proofs.Ytidlmbajpbbilaa
namespace Go.Proofs.Ytidlmbajpbbilaa
open Go.RowKit

def rulesB (s : Sch) : Nat → List Rul → Bool
  | _, [] => true
  | i, r :: l => ruleB s i r && rulesB s (i + 1) l
def baseB (s : Sch) : Bool := inB s.places 1 6 && inB s.signs 1 64 && decide (chartsN s.signs s.places.toNat ≤ 4096) && inB s.kinds 1 4 && inB s.answers 1 20 && decide (s.rules.length ≤ 30)
def schB (s : Sch) : Bool := baseB s && rulesB s 0 s.rules
theorem inB_iff {n a b : Int} : inB n a b = true ↔ a ≤ n ∧ n ≤ b := by simp [inB]
theorem inB_not {n a b : Int} : inB n a b = false ↔ n < a ∨ b < n := by simp only [inB, decide_eq_false_iff_not]; omega

def Check2 (s : Sch) (w : World) (e : Ending) (w' : World) : Prop := e = .returned (.int .i64 (if schB s then 0 else 2)) ∧ Below w.heap.size w w'
theorem check_no {s : Sch} {w w' : World} (h : schB s = false) (hb : Below w.heap.size w w') : Check2 s w (.returned (.int .i64 2)) w' := ⟨by simp [h], hb⟩
theorem check_yes {s : Sch} {w w' : World} (h : schB s = true) (hb : Below w.heap.size w w') : Check2 s w (.returned (.int .i64 0)) w' := ⟨by simp [h], hb⟩

set_option maxRecDepth 100000 in
set_option maxHeartbeats 4000000 in
theorem check_any (s : Sch) (R : Value) (hR : R = s.rv) (w : World) (hr : s.reads w w.heap.size) : Calls Try.prog 36 #[scv s R] w (Check2 s w) := by
  obtain ⟨hr0, hl, hrr⟩ := hr
  obtain ⟨p, sg, k, a, ra, rc, rs⟩ := s
  obtain ⟨n, hn⟩ : ∃ n, n = rs.length := ⟨_, rfl⟩
  simp only [Sch.rv] at *
  rw [← hn] at hl hR
  have HRR := Lib.hid hrr; have HR0 := Lib.hid hr0; have HN := Lib.hid hn
  clear hrr hr0 hn
  subst hR
  by_cases b1 : inB p 1 6 = true
  · by_cases b2 : inB sg 1 64 = true
    · obtain ⟨p0, p1⟩ := inB_iff.1 b1
      obtain ⟨g0, g1⟩ := inB_iff.1 b2
      by_cases b3 : chartsN sg p.toNat ≤ 4096
      · by_cases b4 : inB k 1 4 = true
        · by_cases b5 : inB a 1 20 = true
          · by_cases b6 : n ≤ 30
            · have hk1 := (inB_iff.1 b4).1
              have hk2 := (inB_iff.1 b4).2
              have ha1 := (inB_iff.1 b5).1
              have ha2 := (inB_iff.1 b5).2
              have HB : Hid (baseB ⟨p, sg, k, a, ra, rc, rs⟩ = true) := by show _ = _; have hnn : rs.length ≤ 30 := HN.out ▸ b6; unfold baseB; simp [b1, b2, b3, b4, b5, hnn]
              have d3 : decide (4096 < chartsN sg p.toNat) = false := by simp; omega
              have d6 : decide (30 < (n : Int)) = false := by simp; omega
              have d7 : decide (30 < n) = false := by simp; omega
              go_enter Try.func36, Try.ntmps36
              go_wp2_with (first | (go_at_call 67; refine (within_any _ _ _ _).mono ?_; rintro e w' ⟨rfl, rfl⟩) | (go_at_call 72; refine (charts_any ⟨p, sg, k, a, ra, rc, rs⟩ _ (by omega) (by omega) (by omega) (by omega) _).mono ?_; rintro e w1 ⟨rfl, hb1⟩; obtain ⟨hc1, hf1⟩ := bcell hb1; have hz1 := hb1.size))
              obtain ⟨S, hS⟩ : ∃ S, S = (⟨p, sg, k, a, ra, rc, rs⟩ : Sch) := ⟨_, rfl⟩
              have HI : ∀ (W : World) (num : Int) (r : Rul), r.reads W W.heap.size → Hid (Calls Try.prog 77 #[.agg #[.int .i64 p, .int .i64 sg, .int .i64 k, .int .i64 a, .slice ra n rc], .int .i64 num, rlv r] W fun e w' => e = .returned (.bool (ruleB S num r)) ∧ Below W.heap.size W w') := fun W num r hr => by
                subst hS
                exact isRule_any ⟨p, sg, k, a, ra, rc, rs⟩ _ num r W ⟨p0, p1, g0, g1⟩ hk1 hk2 ha1 ha2 hr
              rw [← hS] at HB ⊢
              have HSS : Hid (S.rules = rs) := (by rw [hS] : S.rules = rs)
              have HSq := Lib.hid hS
              clear hS
              have hbw : Below w.heap.size w w1 := by (repeat (first | exact Below.refl _ _ | assumption | (refine Below.alloc ?_ (by first | omega | (simp; omega) | (simp; done)) _) | (refine Below.setCell ?_ (by first | omega | (simp; omega) | (simp; done)) _) | (refine Below.drew ?_) | (refine belowN ?_ _) | (refine Below.trans ?_ (Below.mono ‹Below _ _ _› (by first | omega | (simp; omega) | (simp; done))))))
              have BX : ScBox w1 w.heap.size ⟨p, sg, k, a, ra, rc, rs⟩ (.slice ra n rc) := ⟨by simp at hz1; omega, by rw [hc1 _ _ (by simp)]; simp [go_sem], by rw [hc1 _ _ (by simp)]; simp [go_sem], by rw [hc1 _ _ (by simp)]; simp [go_sem], by rw [hc1 _ _ (by simp)]; simp [go_sem], by rw [hc1 _ _ (by simp)]; simp [go_sem]⟩
              have hzb : w.heap.size + 1 ≤ w1.heap.size := by simp at hz1; omega
              have HBX := Lib.hid BX
              clear BX hc1 hf1 hb1 hz1
              go_loopw [41] (fun i wr => ∃ j : Nat, j ≤ n ∧ i = .int .i64 j ∧ Below w1.heap.size w1 wr ∧ Hid (rulesB S 0 rs = rulesB S j (rs.drop j))) (fun i _ => n - (intOf i).toNat)
              case atStart => exact ⟨0, by omega, rfl, Below.refl _ _, rfl⟩
              case round =>
                obtain ⟨j, hj, rfl, hb, HA⟩ := hrel
                have hsz := hb.size
                by_cases hlt : j < n
                · have hlt2 : j < rs.length := HN.out ▸ hlt
                  obtain ⟨ab, ao, rfl, hblk, hcell⟩ := (Sl.below HR0.out (hbw.trans (hb.mono hbw.size))).at_ (k := j) (fun _ => rfl) hlt2
                  obtain ⟨r, hr⟩ : ∃ t, rs[j] = t := ⟨_, rfl⟩
                  rw [hr] at hcell
                  have hd : rs.drop j = r :: rs.drop (j + 1) := by rw [List.drop_eq_getElem_cons hlt2, hr]
                  have HRr := Lib.hid (HRR.out r (hr ▸ List.getElem_mem hlt2))
                  have HA2 : Hid (rulesB S 0 rs = (ruleB S j r && rulesB S (j + 1) (rs.drop (j + 1)))) := by
                    show _ = _
                    rw [HA.out, hd]; rfl
                  have c0 : wr.cell? ⟨ab, ao + j * 5, none⟩ = some (.slice r.wa r.when_.length r.wc) := hcell 0 _ rfl
                  have c1 : wr.cell? ⟨ab, ao + j * 5 + 1, none⟩ = some (.int .i64 r.kinds) := hcell 1 _ rfl
                  have c2 : wr.cell? ⟨ab, ao + j * 5 + 2, none⟩ = some (.int .i64 r.rank) := hcell 2 _ rfl
                  have c3 : wr.cell? ⟨ab, ao + j * 5 + 3, none⟩ = some (.slice r.ua r.unless_.length r.uc) := hcell 3 _ rfl
                  have c4 : wr.cell? ⟨ab, ao + j * 5 + 4, none⟩ = some (.int .i64 r.says) := hcell 4 _ rfl
                  have BX := HBX.out.below hb (by omega)
                  obtain ⟨hB, h0, h1, h2, h3, h4⟩ := BX
                  clear hcell hr hd HA
                  go_wp2_with fail
                  refine (HI _ _ r ((HRr.out.below ?_).more ?_)).out.mono ?_
                  · (repeat (first | exact Below.refl _ _ | assumption | (refine Below.alloc ?_ (by first | omega | (simp; omega) | (simp; done)) _) | (refine Below.setCell ?_ (by first | omega | (simp; omega) | (simp; done)) _) | (refine Below.drew ?_) | (refine belowN ?_ _) | (refine Below.trans ?_ (Below.mono ‹Below _ _ _› (by first | omega | (simp; omega) | (simp; done))))))
                  · exact (by first | omega | (simp; omega) | (simp; done))
                  rintro e w2 ⟨rfl, hb2⟩
                  have hz2 := hb2.size
                  by_cases hr2 : ruleB S j r = true
                  · rw [hr2]
                    go_wp2
                    go_roundw
                    case rel => exact ⟨j + 1, by omega, by go_num, by (repeat (first | exact Below.refl _ _ | assumption | (refine Below.alloc ?_ (by first | omega | (simp; omega) | (simp; done)) _) | (refine Below.setCell ?_ (by first | omega | (simp; omega) | (simp; done)) _) | (refine Below.drew ?_) | (refine belowN ?_ _) | (refine Below.trans ?_ (Below.mono ‹Below _ _ _› (by first | omega | (simp; omega) | (simp; done)))))), by show _ = _; rw [HA2.out, hr2]; rfl⟩
                    case measure => simp [intOf]; omega
                  · simp only [Bool.not_eq_true] at hr2
                    have HB2 : Hid (schB S = false) := by show _ = _; unfold schB; rw [HSS.out, HA2.out, hr2]; simp
                    rw [hr2]
                    go_wp2
                    go_ret
                    exact check_no (by first | exact HB2.out | (rw [← HSq.out]; exact HB2.out)) (by (repeat (first | exact Below.refl _ _ | assumption | (refine Below.alloc ?_ (by first | omega | (simp; omega) | (simp; done)) _) | (refine Below.setCell ?_ (by first | omega | (simp; omega) | (simp; done)) _) | (refine Below.drew ?_) | (refine belowN ?_ _) | (refine Below.trans ?_ (Below.mono ‹Below _ _ _› (by first | omega | (simp; omega) | (simp; done)))))))
                · have HB2 : Hid (schB S = true) := by
                    show _ = _
                    unfold schB
                    rw [HB.out, HSS.out, HA.out, List.drop_eq_nil_of_le (by have := HN.out; omega)]; rfl
                  go_wp2
                  go_ret
                  exact check_yes (by first | exact HB2.out | (rw [← HSq.out]; exact HB2.out)) (by (repeat (first | exact Below.refl _ _ | assumption | (refine Below.alloc ?_ (by first | omega | (simp; omega) | (simp; done)) _) | (refine Below.setCell ?_ (by first | omega | (simp; omega) | (simp; done)) _) | (refine Below.drew ?_) | (refine belowN ?_ _) | (refine Below.trans ?_ (Below.mono ‹Below _ _ _› (by first | omega | (simp; omega) | (simp; done)))))))
            · have d6 : decide (30 < (n : Int)) = true := by simp; omega
              have d7 : decide (30 < n) = true := by simp; omega
              (go_enter Try.func36, Try.ntmps36; go_wp2_with (first | (go_at_call 67; refine (within_any _ _ _ _).mono ?_; rintro e w' ⟨rfl, rfl⟩) | (go_at_call 72; refine (charts_any ⟨p, sg, k, a, ra, rc, rs⟩ _ (by omega) (by omega) (by omega) (by omega) _).mono ?_; rintro e w1 ⟨rfl, hb1⟩; obtain ⟨hc1, hf1⟩ := bcell hb1; have hz1 := hb1.size)); go_ret)
              exact check_no (by have := HN.out; simp [schB, baseB]; omega) (by (repeat (first | exact Below.refl _ _ | assumption | (refine Below.alloc ?_ (by first | omega | (simp; omega) | (simp; done)) _) | (refine Below.setCell ?_ (by first | omega | (simp; omega) | (simp; done)) _) | (refine Below.drew ?_) | (refine belowN ?_ _) | (refine Below.trans ?_ (Below.mono ‹Below _ _ _› (by first | omega | (simp; omega) | (simp; done)))))))
          · simp only [Bool.not_eq_true] at b5
            (go_enter Try.func36, Try.ntmps36; go_wp2_with (first | (go_at_call 67; refine (within_any _ _ _ _).mono ?_; rintro e w' ⟨rfl, rfl⟩) | (go_at_call 72; refine (charts_any ⟨p, sg, k, a, ra, rc, rs⟩ _ (by omega) (by omega) (by omega) (by omega) _).mono ?_; rintro e w1 ⟨rfl, hb1⟩; obtain ⟨hc1, hf1⟩ := bcell hb1; have hz1 := hb1.size)); go_ret)
            exact check_no (by simp [schB, baseB, b5]) (by (repeat (first | exact Below.refl _ _ | assumption | (refine Below.alloc ?_ (by first | omega | (simp; omega) | (simp; done)) _) | (refine Below.setCell ?_ (by first | omega | (simp; omega) | (simp; done)) _) | (refine Below.drew ?_) | (refine belowN ?_ _) | (refine Below.trans ?_ (Below.mono ‹Below _ _ _› (by first | omega | (simp; omega) | (simp; done)))))))
        · simp only [Bool.not_eq_true] at b4
          (go_enter Try.func36, Try.ntmps36; go_wp2_with (first | (go_at_call 67; refine (within_any _ _ _ _).mono ?_; rintro e w' ⟨rfl, rfl⟩) | (go_at_call 72; refine (charts_any ⟨p, sg, k, a, ra, rc, rs⟩ _ (by omega) (by omega) (by omega) (by omega) _).mono ?_; rintro e w1 ⟨rfl, hb1⟩; obtain ⟨hc1, hf1⟩ := bcell hb1; have hz1 := hb1.size)); go_ret)
          exact check_no (by simp [schB, baseB, b4]) (by (repeat (first | exact Below.refl _ _ | assumption | (refine Below.alloc ?_ (by first | omega | (simp; omega) | (simp; done)) _) | (refine Below.setCell ?_ (by first | omega | (simp; omega) | (simp; done)) _) | (refine Below.drew ?_) | (refine belowN ?_ _) | (refine Below.trans ?_ (Below.mono ‹Below _ _ _› (by first | omega | (simp; omega) | (simp; done)))))))
      · (go_enter Try.func36, Try.ntmps36; go_wp2_with (first | (go_at_call 67; refine (within_any _ _ _ _).mono ?_; rintro e w' ⟨rfl, rfl⟩) | (go_at_call 72; refine (charts_any ⟨p, sg, k, a, ra, rc, rs⟩ _ (by omega) (by omega) (by omega) (by omega) _).mono ?_; rintro e w1 ⟨rfl, hb1⟩; obtain ⟨hc1, hf1⟩ := bcell hb1; have hz1 := hb1.size)); go_ret)
        exact check_no (by simp [schB, baseB]; omega) (by (repeat (first | exact Below.refl _ _ | assumption | (refine Below.alloc ?_ (by first | omega | (simp; omega) | (simp; done)) _) | (refine Below.setCell ?_ (by first | omega | (simp; omega) | (simp; done)) _) | (refine Below.drew ?_) | (refine belowN ?_ _) | (refine Below.trans ?_ (Below.mono ‹Below _ _ _› (by first | omega | (simp; omega) | (simp; done)))))))
    · simp only [Bool.not_eq_true] at b2
      (go_enter Try.func36, Try.ntmps36; go_wp2_with (first | (go_at_call 67; refine (within_any _ _ _ _).mono ?_; rintro e w' ⟨rfl, rfl⟩) | (go_at_call 72; refine (charts_any ⟨p, sg, k, a, ra, rc, rs⟩ _ (by omega) (by omega) (by omega) (by omega) _).mono ?_; rintro e w1 ⟨rfl, hb1⟩; obtain ⟨hc1, hf1⟩ := bcell hb1; have hz1 := hb1.size)); go_ret)
      exact check_no (by simp [schB, baseB, b2]) (by (repeat (first | exact Below.refl _ _ | assumption | (refine Below.alloc ?_ (by first | omega | (simp; omega) | (simp; done)) _) | (refine Below.setCell ?_ (by first | omega | (simp; omega) | (simp; done)) _) | (refine Below.drew ?_) | (refine belowN ?_ _) | (refine Below.trans ?_ (Below.mono ‹Below _ _ _› (by first | omega | (simp; omega) | (simp; done)))))))
  · simp only [Bool.not_eq_true] at b1
    (go_enter Try.func36, Try.ntmps36; go_wp2_with (first | (go_at_call 67; refine (within_any _ _ _ _).mono ?_; rintro e w' ⟨rfl, rfl⟩) | (go_at_call 72; refine (charts_any ⟨p, sg, k, a, ra, rc, rs⟩ _ (by omega) (by omega) (by omega) (by omega) _).mono ?_; rintro e w1 ⟨rfl, hb1⟩; obtain ⟨hc1, hf1⟩ := bcell hb1; have hz1 := hb1.size)); go_ret)
    exact check_no (by simp [schB, baseB, b1]) (by (repeat (first | exact Below.refl _ _ | assumption | (refine Below.alloc ?_ (by first | omega | (simp; omega) | (simp; done)) _) | (refine Below.setCell ?_ (by first | omega | (simp; omega) | (simp; done)) _) | (refine Below.drew ?_) | (refine belowN ?_ _) | (refine Below.trans ?_ (Below.mono ‹Below _ _ _› (by first | omega | (simp; omega) | (simp; done)))))))
end Go.Proofs.Ytidlmbajpbbilaa
namespace Go.Proofs.Ytidlmbajpbbilaa
open Go.RowKit

/-- the numbers below n for which p, as bits -/
def bset (p : Nat → Bool) : Nat → Nat
  | 0 => 0
  | n + 1 => bset p n + if p n then 2 ^ n else 0
theorem bset_lt (p : Nat → Bool) (n : Nat) : bset p n < 2 ^ n := by
  induction n with
  | zero => simp [bset]
  | succ n ih => simp only [bset]; rw [Nat.pow_succ]; split <;> omega
theorem bset_testBit (p : Nat → Bool) (n i : Nat) : (bset p n).testBit i = (decide (i < n) && p i) := by
  induction n with
  | zero => simp [bset]
  | succ n ih =>
    have hlt := bset_lt p n
    have hor : bset p (n + 1) = (if p n then 2 ^ n else 0) ||| bset p n := by
      simp only [bset]
      by_cases hp : p n = true
      · simp only [hp, if_true]
        have h := Nat.two_pow_add_eq_or_of_lt hlt 1
        rw [Nat.mul_one] at h
        rw [Nat.add_comm, h]
      · simp [hp]
    rw [hor, Nat.testBit_or, ih]
    by_cases hi : i = n
    · subst hi
      by_cases hp : p i = true <;> simp [hp, Nat.testBit_two_pow_self]
    · have hne : ¬ n = i := fun h => hi h.symm
      have hd : decide (i < n) = decide (i < n + 1) := by simp; omega
      by_cases hp : p n = true <;> simp [hp, hne, hd]
theorem bset_or (p q : Nat → Bool) (n : Nat) : bset p n ||| bset q n = bset (fun i => p i || q i) n := by
  apply Nat.eq_of_testBit_eq
  intro i
  rw [Nat.testBit_or, bset_testBit, bset_testBit, bset_testBit]
  cases decide (i < n) <;> simp
theorem bset_congr {p q : Nat → Bool} {n : Nat} (h : ∀ i, i < n → p i = q i) : bset p n = bset q n := by
  apply Nat.eq_of_testBit_eq
  intro i
  rw [bset_testBit, bset_testBit]
  by_cases hi : i < n
  · simp [hi, h i hi]
  · simp [hi]
theorem bset_inj {p q : Nat → Bool} {n : Nat} (h : bset p n = bset q n) : ∀ i, i < n → p i = q i := by
  intro i hi
  have := congrArg (·.testBit i) h
  simpa [bset_testBit, hi] using this
theorem bset_more (p : Nat → Bool) {n m : Nat} (h : n ≤ m) (hp : ∀ i, n ≤ i → i < m → p i = false) : bset p m = bset p n := by
  apply Nat.eq_of_testBit_eq
  intro i
  rw [bset_testBit, bset_testBit]
  by_cases hi : i < n
  · simp [hi, Nat.lt_of_lt_of_le hi h]
  · by_cases hm : i < m
    · simp [hi, hm, hp i (by omega) hm]
    · simp [hi, hm]
theorem bset_one {n i : Nat} (h : i < n) : bset (fun j => j == i) n = 2 ^ i := by
  apply Nat.eq_of_testBit_eq
  intro j
  rw [bset_testBit, Nat.testBit_two_pow]
  by_cases hj : j = i
  · subst hj; simp [h]
  · have : ¬ i = j := fun e => hj e.symm
    simp [hj, this]
theorem bset_add {p : Nat → Bool} {n i : Nat} (h : i < n) : bset p n ||| 2 ^ i = bset (fun j => p j || j == i) n := by
  rw [← bset_one h, bset_or]
theorem bset_bit (p : Nat → Bool) (n i : Nat) : bset p n / 2 ^ i % 2 = if decide (i < n) && p i then 1 else 0 := by
  rw [← bset_testBit p n i, Nat.testBit_eq_decide_div_mod_eq]
  have : bset p n / 2 ^ i % 2 = 0 ∨ bset p n / 2 ^ i % 2 = 1 := by omega
  rcases this with h | h <;> simp [h]
theorem bset_zero (n : Nat) : bset (fun _ => false) n = 0 := by
  induction n with
  | zero => rfl
  | succ n ih => simp [bset, ih]
theorem pow_le_bset {n : Nat} (h : n ≤ 31) : (2 : Nat) ^ n ≤ 2147483648 := Nat.le_trans (Nat.pow_le_pow_right (by omega) h) (by decide)

/-! at the kind uint32 -/
theorem u32or (a b : Nat) (ha : a < 4294967296) (hb : b < 4294967296) : bits BinOp.or IntKind.u32 (a : Int) (b : Int) = ((a ||| b : Nat) : Int) := u32_or_nat a b ha hb
theorem u32bit (a i : Nat) (ha : a < 4294967296) : bits BinOp.and IntKind.u32 ((a : Int) / 2 ^ i) 1 = ((a / 2 ^ i % 2 : Nat) : Int) := by
  have h1 : (a : Int) / 2 ^ i = ((a / 2 ^ i : Nat) : Int) := by simp
  have h2 : a / 2 ^ i < 4294967296 := Nat.lt_of_le_of_lt (Nat.div_le_self _ _) ha
  rw [h1]
  have := u32_and_nat (a / 2 ^ i) 1 h2 (by omega)
  rw [Nat.and_one_is_mod] at this
  exact this

/-! how many bits -/
theorem popAux_add (a b : Nat) : ∀ x, Lib.popAux (a + b) x = Lib.popAux a x + Lib.popAux b (x / 2 ^ a) := by
  induction a with
  | zero => intro x; simp [Lib.popAux]
  | succ a ih =>
    intro x
    rw [show a + 1 + b = (a + b) + 1 by omega]
    simp only [Lib.popAux]
    rw [ih, Nat.pow_succ, Nat.mul_comm (2 ^ a) 2, ← Nat.div_div_eq_div_mul, Nat.add_assoc]
theorem popAux_zero (a : Nat) : Lib.popAux a 0 = 0 := by
  induction a with
  | zero => rfl
  | succ a ih => simp [Lib.popAux, ih]
theorem popAux_mod (a k : Nat) (h : a ≤ k) : ∀ x, Lib.popAux a (x % 2 ^ k) = Lib.popAux a x := by
  induction a generalizing k with
  | zero => intro x; rfl
  | succ a ih =>
    intro x
    obtain ⟨k, rfl⟩ : ∃ j, k = j + 1 := ⟨k - 1, by omega⟩
    simp only [Lib.popAux]
    have h1 : x % 2 ^ (k + 1) / 2 = x / 2 % 2 ^ k := by rw [Nat.pow_succ, Nat.mul_comm, Nat.mod_mul_right_div_self]
    have h2 : x % 2 ^ (k + 1) % 2 = x % 2 := by rw [Nat.pow_succ]; exact Nat.mod_mul_left_mod _ _ _
    rw [h1, h2, ih k (by omega)]
theorem ones_8 (y : Nat) (h : y < 256) : Lib.onesCount y = Lib.popAux 8 y := by
  unfold Lib.onesCount
  rw [show 64 = 8 + 56 from rfl, popAux_add, Nat.div_eq_of_lt (by simpa using h), popAux_zero, Nat.add_zero]
theorem ones_24 (x : Nat) (hx : x < 1048576) : Lib.onesCount (x / 65536) + Lib.onesCount (x / 256 % 256) + Lib.onesCount (x % 256) = Lib.popAux 24 x := by
  rw [ones_8 _ (by omega), ones_8 _ (by omega), ones_8 _ (by omega), show (24 : Nat) = 8 + (8 + 8) from rfl, popAux_add 8, popAux_add 8]
  have h1 : Lib.popAux 8 (x % 256) = Lib.popAux 8 x := popAux_mod 8 8 (by omega) x
  have h2 : Lib.popAux 8 (x / 256 % 256) = Lib.popAux 8 (x / 2 ^ 8) := popAux_mod 8 8 (by omega) (x / 256)
  have h3 : x / 2 ^ 8 / 2 ^ 8 = x / 65536 := by rw [Nat.div_div_eq_div_mul]
  rw [h1, h2, h3]; omega
theorem popAux_count (x : Nat) (n : Nat) : Lib.popAux n x = ((List.range n).filter fun i => x.testBit i).length := by
  induction n with
  | zero => rfl
  | succ n ih =>
    rw [popAux_add n 1, ih, List.range_succ, List.filter_append, List.length_append]
    congr 1
    simp only [Lib.popAux, List.filter_cons, List.filter_nil, Nat.testBit_eq_decide_div_mod_eq]
    have : x / 2 ^ n % 2 = 0 ∨ x / 2 ^ n % 2 = 1 := by omega
    rcases this with h | h <;> rw [h] <;> rfl
theorem filter_bset (p : Nat → Bool) (n m : Nat) (h : n ≤ m) : ((List.range m).filter fun i => (bset p n).testBit i) = (List.range n).filter p := by
  obtain ⟨d, rfl⟩ : ∃ d, m = n + d := ⟨m - n, by omega⟩
  rw [List.range_add, List.filter_append]
  have h1 : (List.filter (fun i => (bset p n).testBit i) (List.map (fun x => n + x) (List.range d))) = [] := by
    rw [List.filter_eq_nil_iff]
    intro a ha
    obtain ⟨b, _, rfl⟩ := List.mem_map.1 ha
    rw [bset_testBit]; simp; intro hlt; omega
  rw [h1, List.append_nil]
  refine List.filter_congr fun a ha => ?_
  rw [bset_testBit]; simp [List.mem_range.1 ha]
theorem pop_bset (p : Nat → Bool) (n m : Nat) (h : n ≤ m) : Lib.popAux m (bset p n) = ((List.range n).filter p).length := by
  rw [popAux_count, filter_bset p n m h]
end Go.Proofs.Ytidlmbajpbbilaa
namespace Go.Proofs.Ytidlmbajpbbilaa
open Go.RowKit

abbrev rdv (s : Sch) (R : Value) (out : Int) : Value := .agg #[.int .i64 s.places, .int .i64 s.signs, .int .i64 s.kinds, .int .i64 s.answers, R, .int .u32 out]
/-- rule i applies -/
def appl (s : Sch) (ch : List Int) (i : Nat) : Bool := match s.rules[i]? with | some r => holdsB ch r.when_ | none => false
theorem bset_succ_or (p : Nat → Bool) (k : Nat) (hk : k < 32) : bits BinOp.or IntKind.u32 ((bset p k : Nat) : Int) (2 ^ k % 4294967296) = ((bset p k ||| 2 ^ k : Nat) : Int) := by
  have h1 := bset_lt p k
  have h2 : (2 : Nat) ^ k ≤ 2147483648 := pow_le_bset (by omega)
  have h3 : (2 : Int) ^ k % 4294967296 = ((2 ^ k : Nat) : Int) := by
    have : (2 : Int) ^ k = ((2 ^ k : Nat) : Int) := by simp
    rw [this]; omega
  rw [h3]
  exact u32or (bset p k) (2 ^ k) (by omega) (by omega)
theorem pow_mod32 (k : Nat) (hk : k < 32) : (2 : Int) ^ k % 4294967296 = ((2 ^ k : Nat) : Int) := by
  have h2 : (2 : Nat) ^ k ≤ 2147483648 := pow_le_bset (by omega)
  have e : (2 : Int) ^ k = ((2 ^ k : Nat) : Int) := by simp
  rw [e]
  obtain ⟨x, hx⟩ : ∃ x, x = 2 ^ k := ⟨_, rfl⟩
  rw [← hx] at h2 ⊢
  omega
theorem bset_succ_or' (p : Nat → Bool) (k : Nat) (hk : k < 32) : bits BinOp.or IntKind.u32 ((bset p k : Nat) : Int) (2 ^ k % 4294967296) = ((bset p k ||| 2 ^ k : Nat) : Int) := bset_succ_or p k hk
theorem bset_next {p : Nat → Bool} {k : Nat} (h : p k = true) : bset p k ||| 2 ^ k = bset p (k + 1) := by
  have hlt := bset_lt p k
  have h1 := Nat.two_pow_add_eq_or_of_lt hlt 1
  rw [Nat.mul_one] at h1
  simp only [bset, h, if_true]
  rw [Nat.or_comm, ← h1, Nat.add_comm]
theorem bset_same {p : Nat → Bool} {k : Nat} (h : p k = false) : bset p (k + 1) = bset p k := by simp [bset, h]

set_option maxRecDepth 100000 in
set_option maxHeartbeats 1000000 in
theorem apply_any (s : Sch) (R : Value) (hR : R = s.rv) (out : Int) (A : Option Addr) (c : Nat) (ch : List Int) (n : Nat) (w : World) (hn : n = ch.length) (hr : s.reads w w.heap.size) (hl : s.rules.length ≤ 30)
    (hf : ∀ x ∈ ch, 0 ≤ x ∧ x ≤ 63) (hfit : ∀ r ∈ s.rules, ∀ t ∈ r.when_, TestFit n t) (hc : Sl intCell 1 w w.heap.size A ch) :
    Calls Try.prog 57 #[rdv s R out, .slice A ch.length c] w fun e w' => e = .returned (.int .u32 ((bset (appl s ch) s.rules.length : Nat) : Int)) ∧ Below w.heap.size w w' := by
  obtain ⟨hr0, hl', hrr⟩ := hr
  have HH : ∀ (W : World) (r : Rul), r ∈ s.rules → Below w.heap.size w W → Hid (Calls Try.prog 69 #[.slice r.wa r.when_.length r.wc, .slice A ch.length c] W fun e w' => e = .returned (.bool (holdsB ch r.when_)) ∧ Below W.heap.size W w') := fun W r hr hW => by
    obtain ⟨a1, a2, a3, a4, a5⟩ := hrr r hr
    exact holds_any r.wa A r.wc c ch r.when_ W n hn a3 (hfit r hr) hf ((a1.below hW).more hW.size) ((hc.below hW).more hW.size)
  have HA : ∀ k, (h : k < s.rules.length) → Hid (appl s ch k = holdsB ch s.rules[k].when_) := fun k h => by show _ = _; unfold appl; rw [List.getElem?_eq_getElem h]
  obtain ⟨p, hp⟩ : ∃ p, p = appl s ch := ⟨_, rfl⟩
  rw [← hp] at HA ⊢
  clear hfit hf hc hrr hp hn
  obtain ⟨pl, sg, k, a, ra, rc, rs⟩ := s
  simp only at *
  subst hR
  have HR0 := Lib.hid hr0
  have HHH := Lib.hid HH
  have HAA := Lib.hid HA
  clear hr0 HH HA
  obtain ⟨m, hm⟩ : ∃ m, m = rs.length := ⟨_, rfl⟩
  rw [← hm] at hl ⊢
  simp only [Sch.rv, ← hm]
  have HM := Lib.hid hm
  clear hm
  obtain ⟨cl, hcl⟩ : ∃ cl, cl = ch.length := ⟨_, rfl⟩
  rw [← hcl] at HHH ⊢
  clear hcl
  go_enter Try.func57, Try.ntmps57
  go_wp2
  go_loopw [4, 11] (fun v i wr => ∃ j : Nat, j ≤ m ∧ i = .int .i64 j ∧ v = .int .u32 ((bset p j : Nat) : Int) ∧ Below (w.heap.size + 1) (w.alloc (Obj.cells #[Value.int IntKind.i64 pl, Value.int IntKind.i64 sg, Value.int IntKind.i64 k, Value.int IntKind.i64 a, Value.slice ra m rc, Value.int IntKind.u32 out] 108)) wr) (fun _ i _ => m - (intOf i).toNat)
  case atStart => exact ⟨0, by omega, rfl, rfl, Below.refl _ _⟩
  case round =>
    obtain ⟨j, hj, rfl, rfl, hb⟩ := hrel
    have hsz : w.heap.size + 1 ≤ wr.heap.size := by have := hb.size; simp at this; exact this
    have hbw : Below w.heap.size w wr := ((Below.refl _ w).alloc (Nat.le_refl _) _).trans (hb.mono (by omega))
    by_cases hlt : j < m
    · have hlt2 : j < rs.length := HM.out ▸ hlt
      obtain ⟨ab, ao, rfl, hblk, hcell⟩ := (Sl.below HR0.out hbw).at_ (k := j) (fun _ => rfl) hlt2
      have HAj := HAA.out j hlt2
      obtain ⟨r, hr⟩ : ∃ t, rs[j] = t := ⟨_, rfl⟩
      rw [hr] at hcell HAj
      have c0 : wr.cell? ⟨ab, ao + j * 5, none⟩ = some (.slice r.wa r.when_.length r.wc) := hcell 0 _ rfl
      have c1 : wr.cell? ⟨ab, ao + j * 5 + 1, none⟩ = some (.int .i64 r.kinds) := hcell 1 _ rfl
      have c2 : wr.cell? ⟨ab, ao + j * 5 + 2, none⟩ = some (.int .i64 r.rank) := hcell 2 _ rfl
      have c3 : wr.cell? ⟨ab, ao + j * 5 + 3, none⟩ = some (.slice r.ua r.unless_.length r.uc) := hcell 3 _ rfl
      have c4 : wr.cell? ⟨ab, ao + j * 5 + 4, none⟩ = some (.int .i64 r.says) := hcell 4 _ rfl
      have HOR := Lib.hid (bset_succ_or p j (by omega))
      have HRr := fun W hW => HHH.out W r (hr ▸ List.getElem_mem hlt2) hW
      have HRR := Lib.hid HRr
      clear hcell hr HRr HHH
      go_wp2_with fail
      refine (HRR.out _ ?_).out.mono ?_
      · (repeat (first | exact Below.refl _ _ | assumption | (refine Below.alloc ?_ (by first | omega | (simp; omega) | (simp; done)) _) | (refine Below.setCell ?_ (by first | omega | (simp; omega) | (simp; done)) _) | (refine Below.drew ?_) | (refine belowN ?_ _) | (refine Below.trans ?_ (Below.mono ‹Below _ _ _› (by first | omega | (simp; omega) | (simp; done))))))
      rintro e w2 ⟨rfl, hb2⟩
      have hz2 := hb2.size
      by_cases hh : holdsB ch r.when_ = true
      · rw [hh]
        have hor := HOR.out
        go_wp2
        go_roundw
        case rel => exact ⟨j + 1, by omega, by go_num, by rw [bset_next (HAj.out.trans hh)], by (repeat (first | exact Below.refl _ _ | assumption | (refine Below.alloc ?_ (by first | omega | (simp; omega) | (simp; done)) _) | (refine Below.setCell ?_ (by first | omega | (simp; omega) | (simp; done)) _) | (refine Below.drew ?_) | (refine belowN ?_ _) | (refine Below.trans ?_ (Below.mono ‹Below _ _ _› (by first | omega | (simp; omega) | (simp; done))))))⟩
        case measure => simp [intOf]; omega
      · simp only [Bool.not_eq_true] at hh
        rw [hh]
        go_wp2
        go_roundw
        case rel => exact ⟨j + 1, by omega, by go_num, by rw [bset_same (HAj.out.trans hh)], by (repeat (first | exact Below.refl _ _ | assumption | (refine Below.alloc ?_ (by first | omega | (simp; omega) | (simp; done)) _) | (refine Below.setCell ?_ (by first | omega | (simp; omega) | (simp; done)) _) | (refine Below.drew ?_) | (refine belowN ?_ _) | (refine Below.trans ?_ (Below.mono ‹Below _ _ _› (by first | omega | (simp; omega) | (simp; done))))))⟩
        case measure => simp [intOf]; omega
    · obtain rfl : j = m := by omega
      go_wp2
      go_ret
      exact ⟨rfl, hbw⟩
end Go.Proofs.Ytidlmbajpbbilaa

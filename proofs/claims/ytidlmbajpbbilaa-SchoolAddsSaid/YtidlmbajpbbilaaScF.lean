/- School: Check. -/
import Derived.Test.YtidlmbajpbbilaaScE
namespace Go.Proofs.Ytidlmbajpbbilaa
open Go.RowKit

def rulesB (s : Sch) : Nat → List Rul → Bool
  | _, [] => true
  | i, r :: l => ruleB s i r && rulesB s (i + 1) l
def baseB (s : Sch) : Bool := inB s.places 1 6 && inB s.signs 1 64 && decide (chartsN s.signs s.places.toNat ≤ 4096) && inB s.kinds 1 4 && inB s.answers 1 20 && decide (s.rules.length ≤ 30)
def schB (s : Sch) : Bool := baseB s && rulesB s 0 s.rules
theorem inB_iff {n a b : Int} : inB n a b = true ↔ a ≤ n ∧ n ≤ b := by simp [inB]
theorem inB_not {n a b : Int} : inB n a b = false ↔ n < a ∨ b < n := by simp only [inB, decide_eq_false_iff_not]; omega

def Check2 (s : Sch) (w : World) (e : Ending) (w' : World) : Prop := e = .returned (.int .i64 (if schB s then 0 else 2)) ∧ Below w.heap.size w w'
theorem check_no {s : Sch} {w w' : World} (h : schB s = false) (hb : Below w.heap.size w w') : Check2 s w (.returned (.int .i64 2)) w' := ⟨by simp [h], hb⟩
theorem check_yes {s : Sch} {w w' : World} (h : schB s = true) (hb : Below w.heap.size w w') : Check2 s w (.returned (.int .i64 0)) w' := ⟨by simp [h], hb⟩

set_option maxRecDepth 100000 in
set_option maxHeartbeats 4000000 in
theorem check_any (s : Sch) (R : Value) (hR : R = s.rv) (w : World) (hr : s.reads w w.heap.size) : Calls Try.prog 36 #[scv s R] w (Check2 s w) := by
  obtain ⟨hr0, hl, hrr⟩ := hr
  obtain ⟨p, sg, k, a, ra, rc, rs⟩ := s
  obtain ⟨n, hn⟩ : ∃ n, n = rs.length := ⟨_, rfl⟩
  simp only [Sch.rv] at *
  rw [← hn] at hl hR
  have HRR := Lib.hid hrr; have HR0 := Lib.hid hr0; have HN := Lib.hid hn
  clear hrr hr0 hn
  subst hR
  by_cases b1 : inB p 1 6 = true
  · by_cases b2 : inB sg 1 64 = true
    · obtain ⟨p0, p1⟩ := inB_iff.1 b1
      obtain ⟨g0, g1⟩ := inB_iff.1 b2
      by_cases b3 : chartsN sg p.toNat ≤ 4096
      · by_cases b4 : inB k 1 4 = true
        · by_cases b5 : inB a 1 20 = true
          · by_cases b6 : n ≤ 30
            · have hk1 := (inB_iff.1 b4).1
              have hk2 := (inB_iff.1 b4).2
              have ha1 := (inB_iff.1 b5).1
              have ha2 := (inB_iff.1 b5).2
              have HB : Hid (baseB ⟨p, sg, k, a, ra, rc, rs⟩ = true) := by show _ = _; have hnn : rs.length ≤ 30 := HN.out ▸ b6; unfold baseB; simp [b1, b2, b3, b4, b5, hnn]
              have d3 : decide (4096 < chartsN sg p.toNat) = false := by simp; omega
              have d6 : decide (30 < (n : Int)) = false := by simp; omega
              have d7 : decide (30 < n) = false := by simp; omega
              go_enter Try.func36, Try.ntmps36
              go_wp2_with (first | (go_at_call 67; refine (within_any _ _ _ _).mono ?_; rintro e w' ⟨rfl, rfl⟩) | (go_at_call 72; refine (charts_any ⟨p, sg, k, a, ra, rc, rs⟩ _ (by omega) (by omega) (by omega) (by omega) _).mono ?_; rintro e w1 ⟨rfl, hb1⟩; obtain ⟨hc1, hf1⟩ := bcell hb1; have hz1 := hb1.size))
              obtain ⟨S, hS⟩ : ∃ S, S = (⟨p, sg, k, a, ra, rc, rs⟩ : Sch) := ⟨_, rfl⟩
              have HI : ∀ (W : World) (num : Int) (r : Rul), r.reads W W.heap.size → Hid (Calls Try.prog 77 #[.agg #[.int .i64 p, .int .i64 sg, .int .i64 k, .int .i64 a, .slice ra n rc], .int .i64 num, rlv r] W fun e w' => e = .returned (.bool (ruleB S num r)) ∧ Below W.heap.size W w') := fun W num r hr => by
                subst hS
                exact isRule_any ⟨p, sg, k, a, ra, rc, rs⟩ _ num r W ⟨p0, p1, g0, g1⟩ hk1 hk2 ha1 ha2 hr
              rw [← hS] at HB ⊢
              have HSS : Hid (S.rules = rs) := (by rw [hS] : S.rules = rs)
              have HSq := Lib.hid hS
              clear hS
              have hbw : Below w.heap.size w w1 := by (repeat (first | exact Below.refl _ _ | assumption | (refine Below.alloc ?_ (by first | omega | (simp; omega) | (simp; done)) _) | (refine Below.setCell ?_ (by first | omega | (simp; omega) | (simp; done)) _) | (refine Below.drew ?_) | (refine belowN ?_ _) | (refine Below.trans ?_ (Below.mono ‹Below _ _ _› (by first | omega | (simp; omega) | (simp; done))))))
              have BX : ScBox w1 w.heap.size ⟨p, sg, k, a, ra, rc, rs⟩ (.slice ra n rc) := ⟨by simp at hz1; omega, by rw [hc1 _ _ (by simp)]; simp [go_sem], by rw [hc1 _ _ (by simp)]; simp [go_sem], by rw [hc1 _ _ (by simp)]; simp [go_sem], by rw [hc1 _ _ (by simp)]; simp [go_sem], by rw [hc1 _ _ (by simp)]; simp [go_sem]⟩
              have hzb : w.heap.size + 1 ≤ w1.heap.size := by simp at hz1; omega
              have HBX := Lib.hid BX
              clear BX hc1 hf1 hb1 hz1
              go_loopw [41] (fun i wr => ∃ j : Nat, j ≤ n ∧ i = .int .i64 j ∧ Below w1.heap.size w1 wr ∧ Hid (rulesB S 0 rs = rulesB S j (rs.drop j))) (fun i _ => n - (intOf i).toNat)
              case atStart => exact ⟨0, by omega, rfl, Below.refl _ _, rfl⟩
              case round =>
                obtain ⟨j, hj, rfl, hb, HA⟩ := hrel
                have hsz := hb.size
                by_cases hlt : j < n
                · have hlt2 : j < rs.length := HN.out ▸ hlt
                  obtain ⟨ab, ao, rfl, hblk, hcell⟩ := (Sl.below HR0.out (hbw.trans (hb.mono hbw.size))).at_ (k := j) (fun _ => rfl) hlt2
                  obtain ⟨r, hr⟩ : ∃ t, rs[j] = t := ⟨_, rfl⟩
                  rw [hr] at hcell
                  have hd : rs.drop j = r :: rs.drop (j + 1) := by rw [List.drop_eq_getElem_cons hlt2, hr]
                  have HRr := Lib.hid (HRR.out r (hr ▸ List.getElem_mem hlt2))
                  have HA2 : Hid (rulesB S 0 rs = (ruleB S j r && rulesB S (j + 1) (rs.drop (j + 1)))) := by
                    show _ = _
                    rw [HA.out, hd]; rfl
                  have c0 : wr.cell? ⟨ab, ao + j * 5, none⟩ = some (.slice r.wa r.when_.length r.wc) := hcell 0 _ rfl
                  have c1 : wr.cell? ⟨ab, ao + j * 5 + 1, none⟩ = some (.int .i64 r.kinds) := hcell 1 _ rfl
                  have c2 : wr.cell? ⟨ab, ao + j * 5 + 2, none⟩ = some (.int .i64 r.rank) := hcell 2 _ rfl
                  have c3 : wr.cell? ⟨ab, ao + j * 5 + 3, none⟩ = some (.slice r.ua r.unless_.length r.uc) := hcell 3 _ rfl
                  have c4 : wr.cell? ⟨ab, ao + j * 5 + 4, none⟩ = some (.int .i64 r.says) := hcell 4 _ rfl
                  have BX := HBX.out.below hb (by omega)
                  obtain ⟨hB, h0, h1, h2, h3, h4⟩ := BX
                  clear hcell hr hd HA
                  go_wp2_with fail
                  refine (HI _ _ r ((HRr.out.below ?_).more ?_)).out.mono ?_
                  · (repeat (first | exact Below.refl _ _ | assumption | (refine Below.alloc ?_ (by first | omega | (simp; omega) | (simp; done)) _) | (refine Below.setCell ?_ (by first | omega | (simp; omega) | (simp; done)) _) | (refine Below.drew ?_) | (refine belowN ?_ _) | (refine Below.trans ?_ (Below.mono ‹Below _ _ _› (by first | omega | (simp; omega) | (simp; done))))))
                  · exact (by first | omega | (simp; omega) | (simp; done))
                  rintro e w2 ⟨rfl, hb2⟩
                  have hz2 := hb2.size
                  by_cases hr2 : ruleB S j r = true
                  · rw [hr2]
                    go_wp2
                    go_roundw
                    case rel => exact ⟨j + 1, by omega, by go_num, by (repeat (first | exact Below.refl _ _ | assumption | (refine Below.alloc ?_ (by first | omega | (simp; omega) | (simp; done)) _) | (refine Below.setCell ?_ (by first | omega | (simp; omega) | (simp; done)) _) | (refine Below.drew ?_) | (refine belowN ?_ _) | (refine Below.trans ?_ (Below.mono ‹Below _ _ _› (by first | omega | (simp; omega) | (simp; done)))))), by show _ = _; rw [HA2.out, hr2]; rfl⟩
                    case measure => simp [intOf]; omega
                  · simp only [Bool.not_eq_true] at hr2
                    have HB2 : Hid (schB S = false) := by show _ = _; unfold schB; rw [HSS.out, HA2.out, hr2]; simp
                    rw [hr2]
                    go_wp2
                    go_ret
                    exact check_no (by first | exact HB2.out | (rw [← HSq.out]; exact HB2.out)) (by (repeat (first | exact Below.refl _ _ | assumption | (refine Below.alloc ?_ (by first | omega | (simp; omega) | (simp; done)) _) | (refine Below.setCell ?_ (by first | omega | (simp; omega) | (simp; done)) _) | (refine Below.drew ?_) | (refine belowN ?_ _) | (refine Below.trans ?_ (Below.mono ‹Below _ _ _› (by first | omega | (simp; omega) | (simp; done)))))))
                · have HB2 : Hid (schB S = true) := by
                    show _ = _
                    unfold schB
                    rw [HB.out, HSS.out, HA.out, List.drop_eq_nil_of_le (by have := HN.out; omega)]; rfl
                  go_wp2
                  go_ret
                  exact check_yes (by first | exact HB2.out | (rw [← HSq.out]; exact HB2.out)) (by (repeat (first | exact Below.refl _ _ | assumption | (refine Below.alloc ?_ (by first | omega | (simp; omega) | (simp; done)) _) | (refine Below.setCell ?_ (by first | omega | (simp; omega) | (simp; done)) _) | (refine Below.drew ?_) | (refine belowN ?_ _) | (refine Below.trans ?_ (Below.mono ‹Below _ _ _› (by first | omega | (simp; omega) | (simp; done)))))))
            · have d6 : decide (30 < (n : Int)) = true := by simp; omega
              have d7 : decide (30 < n) = true := by simp; omega
              (go_enter Try.func36, Try.ntmps36; go_wp2_with (first | (go_at_call 67; refine (within_any _ _ _ _).mono ?_; rintro e w' ⟨rfl, rfl⟩) | (go_at_call 72; refine (charts_any ⟨p, sg, k, a, ra, rc, rs⟩ _ (by omega) (by omega) (by omega) (by omega) _).mono ?_; rintro e w1 ⟨rfl, hb1⟩; obtain ⟨hc1, hf1⟩ := bcell hb1; have hz1 := hb1.size)); go_ret)
              exact check_no (by have := HN.out; simp [schB, baseB]; omega) (by (repeat (first | exact Below.refl _ _ | assumption | (refine Below.alloc ?_ (by first | omega | (simp; omega) | (simp; done)) _) | (refine Below.setCell ?_ (by first | omega | (simp; omega) | (simp; done)) _) | (refine Below.drew ?_) | (refine belowN ?_ _) | (refine Below.trans ?_ (Below.mono ‹Below _ _ _› (by first | omega | (simp; omega) | (simp; done)))))))
          · simp only [Bool.not_eq_true] at b5
            (go_enter Try.func36, Try.ntmps36; go_wp2_with (first | (go_at_call 67; refine (within_any _ _ _ _).mono ?_; rintro e w' ⟨rfl, rfl⟩) | (go_at_call 72; refine (charts_any ⟨p, sg, k, a, ra, rc, rs⟩ _ (by omega) (by omega) (by omega) (by omega) _).mono ?_; rintro e w1 ⟨rfl, hb1⟩; obtain ⟨hc1, hf1⟩ := bcell hb1; have hz1 := hb1.size)); go_ret)
            exact check_no (by simp [schB, baseB, b5]) (by (repeat (first | exact Below.refl _ _ | assumption | (refine Below.alloc ?_ (by first | omega | (simp; omega) | (simp; done)) _) | (refine Below.setCell ?_ (by first | omega | (simp; omega) | (simp; done)) _) | (refine Below.drew ?_) | (refine belowN ?_ _) | (refine Below.trans ?_ (Below.mono ‹Below _ _ _› (by first | omega | (simp; omega) | (simp; done)))))))
        · simp only [Bool.not_eq_true] at b4
          (go_enter Try.func36, Try.ntmps36; go_wp2_with (first | (go_at_call 67; refine (within_any _ _ _ _).mono ?_; rintro e w' ⟨rfl, rfl⟩) | (go_at_call 72; refine (charts_any ⟨p, sg, k, a, ra, rc, rs⟩ _ (by omega) (by omega) (by omega) (by omega) _).mono ?_; rintro e w1 ⟨rfl, hb1⟩; obtain ⟨hc1, hf1⟩ := bcell hb1; have hz1 := hb1.size)); go_ret)
          exact check_no (by simp [schB, baseB, b4]) (by (repeat (first | exact Below.refl _ _ | assumption | (refine Below.alloc ?_ (by first | omega | (simp; omega) | (simp; done)) _) | (refine Below.setCell ?_ (by first | omega | (simp; omega) | (simp; done)) _) | (refine Below.drew ?_) | (refine belowN ?_ _) | (refine Below.trans ?_ (Below.mono ‹Below _ _ _› (by first | omega | (simp; omega) | (simp; done)))))))
      · (go_enter Try.func36, Try.ntmps36; go_wp2_with (first | (go_at_call 67; refine (within_any _ _ _ _).mono ?_; rintro e w' ⟨rfl, rfl⟩) | (go_at_call 72; refine (charts_any ⟨p, sg, k, a, ra, rc, rs⟩ _ (by omega) (by omega) (by omega) (by omega) _).mono ?_; rintro e w1 ⟨rfl, hb1⟩; obtain ⟨hc1, hf1⟩ := bcell hb1; have hz1 := hb1.size)); go_ret)
        exact check_no (by simp [schB, baseB]; omega) (by (repeat (first | exact Below.refl _ _ | assumption | (refine Below.alloc ?_ (by first | omega | (simp; omega) | (simp; done)) _) | (refine Below.setCell ?_ (by first | omega | (simp; omega) | (simp; done)) _) | (refine Below.drew ?_) | (refine belowN ?_ _) | (refine Below.trans ?_ (Below.mono ‹Below _ _ _› (by first | omega | (simp; omega) | (simp; done)))))))
    · simp only [Bool.not_eq_true] at b2
      (go_enter Try.func36, Try.ntmps36; go_wp2_with (first | (go_at_call 67; refine (within_any _ _ _ _).mono ?_; rintro e w' ⟨rfl, rfl⟩) | (go_at_call 72; refine (charts_any ⟨p, sg, k, a, ra, rc, rs⟩ _ (by omega) (by omega) (by omega) (by omega) _).mono ?_; rintro e w1 ⟨rfl, hb1⟩; obtain ⟨hc1, hf1⟩ := bcell hb1; have hz1 := hb1.size)); go_ret)
      exact check_no (by simp [schB, baseB, b2]) (by (repeat (first | exact Below.refl _ _ | assumption | (refine Below.alloc ?_ (by first | omega | (simp; omega) | (simp; done)) _) | (refine Below.setCell ?_ (by first | omega | (simp; omega) | (simp; done)) _) | (refine Below.drew ?_) | (refine belowN ?_ _) | (refine Below.trans ?_ (Below.mono ‹Below _ _ _› (by first | omega | (simp; omega) | (simp; done)))))))
  · simp only [Bool.not_eq_true] at b1
    (go_enter Try.func36, Try.ntmps36; go_wp2_with (first | (go_at_call 67; refine (within_any _ _ _ _).mono ?_; rintro e w' ⟨rfl, rfl⟩) | (go_at_call 72; refine (charts_any ⟨p, sg, k, a, ra, rc, rs⟩ _ (by omega) (by omega) (by omega) (by omega) _).mono ?_; rintro e w1 ⟨rfl, hb1⟩; obtain ⟨hc1, hf1⟩ := bcell hb1; have hz1 := hb1.size)); go_ret)
    exact check_no (by simp [schB, baseB, b1]) (by (repeat (first | exact Below.refl _ _ | assumption | (refine Below.alloc ?_ (by first | omega | (simp; omega) | (simp; done)) _) | (refine Below.setCell ?_ (by first | omega | (simp; omega) | (simp; done)) _) | (refine Below.drew ?_) | (refine belowN ?_ _) | (refine Below.trans ?_ (Below.mono ‹Below _ _ _› (by first | omega | (simp; omega) | (simp; done)))))))
end Go.Proofs.Ytidlmbajpbbilaa

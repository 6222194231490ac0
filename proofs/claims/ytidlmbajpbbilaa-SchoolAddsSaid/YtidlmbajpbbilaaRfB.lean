/- The reference: Tests. -/
import Derived.Test.YtidlmbajpbbilaaRfA
namespace Go.Proofs.Ytidlmbajpbbilaa
open Go.RowKit

theorem all_drop {α : Type} {p : α → Bool} {l : List α} {k : Nat} (h : k < l.length) : (l.drop k).all p = (p l[k] && (l.drop (k + 1)).all p) := by
  rw [List.drop_eq_getElem_cons h]; rfl
set_option maxRecDepth 100000 in
set_option maxHeartbeats 4000000 in
theorem rtests_any (s : Sch) (R : Value) (A : Option Addr) (c : Nat) (ts : List Tst) (w : World) (hs : Small s) (hl : ts.length ≤ 1000000) (ho : ∀ t ∈ ts, t.ok) (hr : Sl Tst.cells 4 w w.heap.size A ts) :
    Calls Try.prog 61 #[scv s R, .slice A ts.length c] w fun e w' => e = .returned (.bool (testsB s ts)) ∧ Below w.heap.size w w' := by
  have HO := Lib.hid ho; have HR := Lib.hid hr
  obtain ⟨q1, q2, q3, q4⟩ := hs
  clear ho hr
  go_enter Try.func61, Try.ntmps61
  go_wp2
  refine wp_world (fun W => Below w.heap.size w W ∧ w.heap.size < W.heap.size ∧ Blk W w.heap.size #[.int .i64 s.places, .int .i64 s.signs, .int .i64 s.kinds, .int .i64 s.answers, R] 24) ⟨(Below.refl _ _).alloc (Nat.le_refl _) _, by simp, Blk.at_ rfl⟩ ?_
  rintro w0 ⟨hbw, hz0, g0⟩
  go_loopw [5] (fun i wr => ∃ j : Nat, j ≤ ts.length ∧ i = .int .i64 j ∧ Below w0.heap.size w0 wr ∧ Hid (ts.all (tstB s) = (ts.drop j).all (tstB s))) (fun i _ => ts.length - (intOf i).toNat)
  case atStart => exact ⟨0, by omega, rfl, Below.refl _ _, rfl⟩
  case round =>
    obtain ⟨j, hj, rfl, hb, HA⟩ := hrel
    have hsz := hb.size
    have hbr : Below w.heap.size w wr := hbw.trans (hb.mono (by omega))
    have gc := (g0.below hb (by omega)).cell
    have s0 := gc 0; have s1 := gc 1; have s2 := gc 2; have s3 := gc 3; have s4 := gc 4
    simp at s0 s1 s2 s3 s4
    clear gc
    by_cases hlt : j < ts.length
    · obtain ⟨ab, ao, rfl, hblk, hcell⟩ := (HR.out.below hbr).at_ (k := j) (fun _ => rfl) hlt
      have HD := Lib.hid (all_drop (p := tstB s) hlt)
      have hok := HO.out _ (List.getElem_mem hlt)
      obtain ⟨t, ht⟩ : ∃ t, ts[j] = t := ⟨_, rfl⟩
      rw [ht] at hcell HD hok
      clear ht
      have HSET := fun W => Lib.hid (rset_any s t.set R q3 q4 hok.2 W)
      obtain ⟨tk, tp, to, tt⟩ := t
      have c0 : wr.cell? ⟨ab, ao + j * 4, none⟩ = some (Value.int .i64 tk) := hcell 0 _ rfl
      have c1 : wr.cell? ⟨ab, ao + j * 4 + 1, none⟩ = some (Value.int .i64 tp) := hcell 1 _ rfl
      have c2 : wr.cell? ⟨ab, ao + j * 4 + 2, none⟩ = some (Value.int .i64 to) := hcell 2 _ rfl
      have c3 : wr.cell? ⟨ab, ao + j * 4 + 3, none⟩ = some (Value.int .u64 tt) := hcell 3 _ rfl
      have l0 : w.heap.size < wr.heap.size := by omega
      clear hcell hok
      have BAD : ((0 : Int) == 0) = true := rfl
      simp only at HSET
      by_cases k1 : (tk == 1) = true
      · by_cases d1 : inB tp 0 (s.places - 1) = true
        · by_cases o1 : (to != 0) = true
          · have o2 : (to == 0) = false := by simpa using o1
            have k2 : (tk == 2) = false := by simp only [beq_iff_eq] at k1; simp [k1]
            have k3 : (tk == 3) = false := by simp only [beq_iff_eq] at k1; simp [k1]
            have HT : Hid ((ts.drop j).all (tstB s) = false) := (by rw [HD.out]; simp only [tstB, k1, k2, k3, o2]; simp : (ts.drop j).all (tstB s) = false)
            go_wp2_with (first | (go_at_call 60; refine (rin_val (by assumption) _).mono ?_; rintro e w' ⟨rfl, rfl⟩) | (go_at_call 62; refine ((HSET _).out).mono ?_; rintro e w2 ⟨rfl, hb2⟩))
            go_ret
            exact ⟨ret_bool (by simp only [testsB]; rw [HA.out, HT.out]; simp), by (repeat (first | exact Below.refl _ _ | assumption | (refine Below.alloc ?_ (by first | omega | (simp; omega) | (simp; done)) _) | (refine Below.setCell ?_ (by first | omega | (simp; omega) | (simp; done)) _) | (refine Below.drew ?_) | (refine belowN ?_ _) | (refine Below.trans ?_ (Below.mono ‹Below _ _ _› (by first | omega | (simp; omega) | (simp; done))))))⟩
          · simp only [Bool.not_eq_true] at o1
            have o2 : (to == 0) = true := by simpa using o1
            have k2 : (tk == 2) = false := by simp only [beq_iff_eq] at k1; simp [k1]
            have k3 : (tk == 3) = false := by simp only [beq_iff_eq] at k1; simp [k1]
            by_cases f1 : fitsB s.signs tt = true
            · rw [f1] at HSET
              have HT : Hid (ts.all (tstB s) = (ts.drop (j + 1)).all (tstB s)) := (by rw [HA.out, HD.out]; simp only [tstB, k1, k2, k3, o2, d1, f1]; simp : ts.all (tstB s) = (ts.drop (j + 1)).all (tstB s))
              go_wp2_with (first | (go_at_call 60; refine (rin_val (by assumption) _).mono ?_; rintro e w' ⟨rfl, rfl⟩) | (go_at_call 62; refine ((HSET _).out).mono ?_; rintro e w2 ⟨rfl, hb2⟩))
              go_roundw
              case rel => exact ⟨j + 1, by omega, by go_num, by (repeat (first | exact Below.refl _ _ | assumption | (refine Below.alloc ?_ (by first | omega | (simp; omega) | (simp; done)) _) | (refine Below.setCell ?_ (by first | omega | (simp; omega) | (simp; done)) _) | (refine Below.drew ?_) | (refine belowN ?_ _) | (refine Below.trans ?_ (Below.mono ‹Below _ _ _› (by first | omega | (simp; omega) | (simp; done)))))), HT⟩
              case measure => simp [intOf]; omega
            · simp only [Bool.not_eq_true] at f1
              rw [f1] at HSET
              have HT : Hid ((ts.drop j).all (tstB s) = false) := (by rw [HD.out]; simp only [tstB, k1, k2, k3, o2, d1, f1]; simp : (ts.drop j).all (tstB s) = false)
              go_wp2_with (first | (go_at_call 60; refine (rin_val (by assumption) _).mono ?_; rintro e w' ⟨rfl, rfl⟩) | (go_at_call 62; refine ((HSET _).out).mono ?_; rintro e w2 ⟨rfl, hb2⟩))
              go_ret
              exact ⟨ret_bool (by simp only [testsB]; rw [HA.out, HT.out]; simp), by (repeat (first | exact Below.refl _ _ | assumption | (refine Below.alloc ?_ (by first | omega | (simp; omega) | (simp; done)) _) | (refine Below.setCell ?_ (by first | omega | (simp; omega) | (simp; done)) _) | (refine Below.drew ?_) | (refine belowN ?_ _) | (refine Below.trans ?_ (Below.mono ‹Below _ _ _› (by first | omega | (simp; omega) | (simp; done))))))⟩
        · simp only [Bool.not_eq_true] at d1
          have HT : Hid ((ts.drop j).all (tstB s) = false) := (by rw [HD.out]; simp only [tstB, d1]; simp : (ts.drop j).all (tstB s) = false)
          go_wp2_with (first | (go_at_call 60; refine (rin_val (by assumption) _).mono ?_; rintro e w' ⟨rfl, rfl⟩) | (go_at_call 62; refine ((HSET _).out).mono ?_; rintro e w2 ⟨rfl, hb2⟩))
          go_ret
          exact ⟨ret_bool (by simp only [testsB]; rw [HA.out, HT.out]; simp), by (repeat (first | exact Below.refl _ _ | assumption | (refine Below.alloc ?_ (by first | omega | (simp; omega) | (simp; done)) _) | (refine Below.setCell ?_ (by first | omega | (simp; omega) | (simp; done)) _) | (refine Below.drew ?_) | (refine belowN ?_ _) | (refine Below.trans ?_ (Below.mono ‹Below _ _ _› (by first | omega | (simp; omega) | (simp; done))))))⟩
      · simp only [Bool.not_eq_true] at k1
        by_cases d1 : inB tp 0 (s.places - 1) = true
        · by_cases k2 : (tk == 2) = true
          · have k3 : (tk == 3) = false := by simp only [beq_iff_eq] at k2; simp [k2]
            by_cases d2 : inB to 0 (s.places - 1) = true
            · by_cases d3 : (tp == to) = true
              · have d4 : (to != tp) = false := by simp only [beq_iff_eq] at d3; simp [d3]
                have HT : Hid ((ts.drop j).all (tstB s) = false) := (by rw [HD.out]; simp only [tstB, k1, k2, k3, d1, d2, d4]; simp : (ts.drop j).all (tstB s) = false)
                go_wp2_with (first | (go_at_call 60; refine (rin_val (by assumption) _).mono ?_; rintro e w' ⟨rfl, rfl⟩) | (go_at_call 62; refine ((HSET _).out).mono ?_; rintro e w2 ⟨rfl, hb2⟩))
                go_ret
                exact ⟨ret_bool (by simp only [testsB]; rw [HA.out, HT.out]; simp), by (repeat (first | exact Below.refl _ _ | assumption | (refine Below.alloc ?_ (by first | omega | (simp; omega) | (simp; done)) _) | (refine Below.setCell ?_ (by first | omega | (simp; omega) | (simp; done)) _) | (refine Below.drew ?_) | (refine belowN ?_ _) | (refine Below.trans ?_ (Below.mono ‹Below _ _ _› (by first | omega | (simp; omega) | (simp; done))))))⟩
              · simp only [Bool.not_eq_true] at d3
                have d4 : (to != tp) = true := by simp only [beq_eq_false_iff_ne, ne_eq] at d3; simp only [bne_iff_ne, ne_eq]; omega
                by_cases d5 : (tt != 0) = true
                · have d6 : (tt == 0) = false := by simpa using d5
                  have HT : Hid ((ts.drop j).all (tstB s) = false) := (by rw [HD.out]; simp only [tstB, k1, k2, k3, d1, d2, d4, d6]; simp : (ts.drop j).all (tstB s) = false)
                  go_wp2_with (first | (go_at_call 60; refine (rin_val (by assumption) _).mono ?_; rintro e w' ⟨rfl, rfl⟩) | (go_at_call 62; refine ((HSET _).out).mono ?_; rintro e w2 ⟨rfl, hb2⟩))
                  go_ret
                  exact ⟨ret_bool (by simp only [testsB]; rw [HA.out, HT.out]; simp), by (repeat (first | exact Below.refl _ _ | assumption | (refine Below.alloc ?_ (by first | omega | (simp; omega) | (simp; done)) _) | (refine Below.setCell ?_ (by first | omega | (simp; omega) | (simp; done)) _) | (refine Below.drew ?_) | (refine belowN ?_ _) | (refine Below.trans ?_ (Below.mono ‹Below _ _ _› (by first | omega | (simp; omega) | (simp; done))))))⟩
                · simp only [Bool.not_eq_true] at d5
                  have d6 : (tt == 0) = true := by simpa using d5
                  have HT : Hid (ts.all (tstB s) = (ts.drop (j + 1)).all (tstB s)) := (by rw [HA.out, HD.out]; simp only [tstB, k1, k2, k3, d1, d2, d4, d6]; simp : ts.all (tstB s) = (ts.drop (j + 1)).all (tstB s))
                  go_wp2_with (first | (go_at_call 60; refine (rin_val (by assumption) _).mono ?_; rintro e w' ⟨rfl, rfl⟩) | (go_at_call 62; refine ((HSET _).out).mono ?_; rintro e w2 ⟨rfl, hb2⟩))
                  go_roundw
                  case rel => exact ⟨j + 1, by omega, by go_num, by (repeat (first | exact Below.refl _ _ | assumption | (refine Below.alloc ?_ (by first | omega | (simp; omega) | (simp; done)) _) | (refine Below.setCell ?_ (by first | omega | (simp; omega) | (simp; done)) _) | (refine Below.drew ?_) | (refine belowN ?_ _) | (refine Below.trans ?_ (Below.mono ‹Below _ _ _› (by first | omega | (simp; omega) | (simp; done)))))), HT⟩
                  case measure => simp [intOf]; omega
            · simp only [Bool.not_eq_true] at d2
              have HT : Hid ((ts.drop j).all (tstB s) = false) := (by rw [HD.out]; simp only [tstB, k1, d2]; simp : (ts.drop j).all (tstB s) = false)
              go_wp2_with (first | (go_at_call 60; refine (rin_val (by assumption) _).mono ?_; rintro e w' ⟨rfl, rfl⟩) | (go_at_call 62; refine ((HSET _).out).mono ?_; rintro e w2 ⟨rfl, hb2⟩))
              go_ret
              exact ⟨ret_bool (by simp only [testsB]; rw [HA.out, HT.out]; simp), by (repeat (first | exact Below.refl _ _ | assumption | (refine Below.alloc ?_ (by first | omega | (simp; omega) | (simp; done)) _) | (refine Below.setCell ?_ (by first | omega | (simp; omega) | (simp; done)) _) | (refine Below.drew ?_) | (refine belowN ?_ _) | (refine Below.trans ?_ (Below.mono ‹Below _ _ _› (by first | omega | (simp; omega) | (simp; done))))))⟩
          · simp only [Bool.not_eq_true] at k2
            by_cases k3 : (tk == 3) = true
            · by_cases d2 : inB to 0 (s.places - 1) = true
              · by_cases d3 : (tp == to) = true
                · have d4 : (to != tp) = false := by simp only [beq_iff_eq] at d3; simp [d3]
                  have HT : Hid ((ts.drop j).all (tstB s) = false) := (by rw [HD.out]; simp only [tstB, k1, k2, k3, d1, d2, d4]; simp : (ts.drop j).all (tstB s) = false)
                  go_wp2_with (first | (go_at_call 60; refine (rin_val (by assumption) _).mono ?_; rintro e w' ⟨rfl, rfl⟩) | (go_at_call 62; refine ((HSET _).out).mono ?_; rintro e w2 ⟨rfl, hb2⟩))
                  go_ret
                  exact ⟨ret_bool (by simp only [testsB]; rw [HA.out, HT.out]; simp), by (repeat (first | exact Below.refl _ _ | assumption | (refine Below.alloc ?_ (by first | omega | (simp; omega) | (simp; done)) _) | (refine Below.setCell ?_ (by first | omega | (simp; omega) | (simp; done)) _) | (refine Below.drew ?_) | (refine belowN ?_ _) | (refine Below.trans ?_ (Below.mono ‹Below _ _ _› (by first | omega | (simp; omega) | (simp; done))))))⟩
                · simp only [Bool.not_eq_true] at d3
                  have d4 : (to != tp) = true := by simp only [beq_eq_false_iff_ne, ne_eq] at d3; simp only [bne_iff_ne, ne_eq]; omega
                  by_cases d5 : (tt != 0) = true
                  · have d6 : (tt == 0) = false := by simpa using d5
                    have HT : Hid ((ts.drop j).all (tstB s) = false) := (by rw [HD.out]; simp only [tstB, k1, k2, k3, d1, d2, d4, d6]; simp : (ts.drop j).all (tstB s) = false)
                    go_wp2_with (first | (go_at_call 60; refine (rin_val (by assumption) _).mono ?_; rintro e w' ⟨rfl, rfl⟩) | (go_at_call 62; refine ((HSET _).out).mono ?_; rintro e w2 ⟨rfl, hb2⟩))
                    go_ret
                    exact ⟨ret_bool (by simp only [testsB]; rw [HA.out, HT.out]; simp), by (repeat (first | exact Below.refl _ _ | assumption | (refine Below.alloc ?_ (by first | omega | (simp; omega) | (simp; done)) _) | (refine Below.setCell ?_ (by first | omega | (simp; omega) | (simp; done)) _) | (refine Below.drew ?_) | (refine belowN ?_ _) | (refine Below.trans ?_ (Below.mono ‹Below _ _ _› (by first | omega | (simp; omega) | (simp; done))))))⟩
                  · simp only [Bool.not_eq_true] at d5
                    have d6 : (tt == 0) = true := by simpa using d5
                    have HT : Hid (ts.all (tstB s) = (ts.drop (j + 1)).all (tstB s)) := (by rw [HA.out, HD.out]; simp only [tstB, k1, k2, k3, d1, d2, d4, d6]; simp : ts.all (tstB s) = (ts.drop (j + 1)).all (tstB s))
                    go_wp2_with (first | (go_at_call 60; refine (rin_val (by assumption) _).mono ?_; rintro e w' ⟨rfl, rfl⟩) | (go_at_call 62; refine ((HSET _).out).mono ?_; rintro e w2 ⟨rfl, hb2⟩))
                    go_roundw
                    case rel => exact ⟨j + 1, by omega, by go_num, by (repeat (first | exact Below.refl _ _ | assumption | (refine Below.alloc ?_ (by first | omega | (simp; omega) | (simp; done)) _) | (refine Below.setCell ?_ (by first | omega | (simp; omega) | (simp; done)) _) | (refine Below.drew ?_) | (refine belowN ?_ _) | (refine Below.trans ?_ (Below.mono ‹Below _ _ _› (by first | omega | (simp; omega) | (simp; done)))))), HT⟩
                    case measure => simp [intOf]; omega
              · simp only [Bool.not_eq_true] at d2
                have HT : Hid ((ts.drop j).all (tstB s) = false) := (by rw [HD.out]; simp only [tstB, k1, d2]; simp : (ts.drop j).all (tstB s) = false)
                go_wp2_with (first | (go_at_call 60; refine (rin_val (by assumption) _).mono ?_; rintro e w' ⟨rfl, rfl⟩) | (go_at_call 62; refine ((HSET _).out).mono ?_; rintro e w2 ⟨rfl, hb2⟩))
                go_ret
                exact ⟨ret_bool (by simp only [testsB]; rw [HA.out, HT.out]; simp), by (repeat (first | exact Below.refl _ _ | assumption | (refine Below.alloc ?_ (by first | omega | (simp; omega) | (simp; done)) _) | (refine Below.setCell ?_ (by first | omega | (simp; omega) | (simp; done)) _) | (refine Below.drew ?_) | (refine belowN ?_ _) | (refine Below.trans ?_ (Below.mono ‹Below _ _ _› (by first | omega | (simp; omega) | (simp; done))))))⟩
            · simp only [Bool.not_eq_true] at k3
              have HT : Hid ((ts.drop j).all (tstB s) = false) := (by rw [HD.out]; simp only [tstB, k1, k2, k3]; simp : (ts.drop j).all (tstB s) = false)
              go_wp2_with (first | (go_at_call 60; refine (rin_val (by assumption) _).mono ?_; rintro e w' ⟨rfl, rfl⟩) | (go_at_call 62; refine ((HSET _).out).mono ?_; rintro e w2 ⟨rfl, hb2⟩))
              go_ret
              exact ⟨ret_bool (by simp only [testsB]; rw [HA.out, HT.out]; simp), by (repeat (first | exact Below.refl _ _ | assumption | (refine Below.alloc ?_ (by first | omega | (simp; omega) | (simp; done)) _) | (refine Below.setCell ?_ (by first | omega | (simp; omega) | (simp; done)) _) | (refine Below.drew ?_) | (refine belowN ?_ _) | (refine Below.trans ?_ (Below.mono ‹Below _ _ _› (by first | omega | (simp; omega) | (simp; done))))))⟩
        · simp only [Bool.not_eq_true] at d1
          by_cases k2 : (tk == 2) = true
          · have HT : Hid ((ts.drop j).all (tstB s) = false) := (by rw [HD.out]; simp only [tstB, d1]; simp : (ts.drop j).all (tstB s) = false)
            go_wp2_with (first | (go_at_call 60; refine (rin_val (by assumption) _).mono ?_; rintro e w' ⟨rfl, rfl⟩) | (go_at_call 62; refine ((HSET _).out).mono ?_; rintro e w2 ⟨rfl, hb2⟩))
            go_ret
            exact ⟨ret_bool (by simp only [testsB]; rw [HA.out, HT.out]; simp), by (repeat (first | exact Below.refl _ _ | assumption | (refine Below.alloc ?_ (by first | omega | (simp; omega) | (simp; done)) _) | (refine Below.setCell ?_ (by first | omega | (simp; omega) | (simp; done)) _) | (refine Below.drew ?_) | (refine belowN ?_ _) | (refine Below.trans ?_ (Below.mono ‹Below _ _ _› (by first | omega | (simp; omega) | (simp; done))))))⟩
          · simp only [Bool.not_eq_true] at k2
            by_cases k3 : (tk == 3) = true
            · have HT : Hid ((ts.drop j).all (tstB s) = false) := (by rw [HD.out]; simp only [tstB, d1]; simp : (ts.drop j).all (tstB s) = false)
              go_wp2_with (first | (go_at_call 60; refine (rin_val (by assumption) _).mono ?_; rintro e w' ⟨rfl, rfl⟩) | (go_at_call 62; refine ((HSET _).out).mono ?_; rintro e w2 ⟨rfl, hb2⟩))
              go_ret
              exact ⟨ret_bool (by simp only [testsB]; rw [HA.out, HT.out]; simp), by (repeat (first | exact Below.refl _ _ | assumption | (refine Below.alloc ?_ (by first | omega | (simp; omega) | (simp; done)) _) | (refine Below.setCell ?_ (by first | omega | (simp; omega) | (simp; done)) _) | (refine Below.drew ?_) | (refine belowN ?_ _) | (refine Below.trans ?_ (Below.mono ‹Below _ _ _› (by first | omega | (simp; omega) | (simp; done))))))⟩
            · simp only [Bool.not_eq_true] at k3
              have HT : Hid ((ts.drop j).all (tstB s) = false) := (by rw [HD.out]; simp only [tstB, d1]; simp : (ts.drop j).all (tstB s) = false)
              go_wp2_with (first | (go_at_call 60; refine (rin_val (by assumption) _).mono ?_; rintro e w' ⟨rfl, rfl⟩) | (go_at_call 62; refine ((HSET _).out).mono ?_; rintro e w2 ⟨rfl, hb2⟩))
              go_ret
              exact ⟨ret_bool (by simp only [testsB]; rw [HA.out, HT.out]; simp), by (repeat (first | exact Below.refl _ _ | assumption | (refine Below.alloc ?_ (by first | omega | (simp; omega) | (simp; done)) _) | (refine Below.setCell ?_ (by first | omega | (simp; omega) | (simp; done)) _) | (refine Below.drew ?_) | (refine belowN ?_ _) | (refine Below.trans ?_ (Below.mono ‹Below _ _ _› (by first | omega | (simp; omega) | (simp; done))))))⟩
    · obtain rfl : j = ts.length := by omega
      have HT : Hid (testsB s ts = decide ((ts.length : Int) ≤ 6)) := (by simp only [testsB]; rw [HA.out]; simp; omega : testsB s ts = decide ((ts.length : Int) ≤ 6))
      go_wp2
      go_ret
      exact ⟨ret_bool HT.out.symm, hbr⟩
end Go.Proofs.Ytidlmbajpbbilaa

/- The law SchoolKeeps: the walk, all cases. -/
import Derived.Test.YtidlmbajpbbilaaLkA
namespace Go.Proofs.Ytidlmbajpbbilaa
open Go.RowKit

/-- claims in memory, however many and long -/
def ClmsW (w : World) (B : Nat) (A : Option Addr) (cs : List Clm) : Prop := Sl Clm.cells 4 w B A cs ∧ ∀ c ∈ cs, (Sl setCell1 1 w B c.sa c.sets ∧ ∀ x ∈ c.sets, IsU64 x)
theorem ClmsW.reads {w : World} {B : Nat} {A : Option Addr} {cs : List Clm} (h : ClmsW w B A cs) (h1 : cs.length ≤ 25) (h2 : ∀ q ∈ cs, q.sets.length ≤ 10) : ClmsRead w B A cs :=
  ⟨h.1, by omega, fun q hq => ⟨(h.2 q hq).1, by have := h2 q hq; omega, (h.2 q hq).2⟩⟩
set_option maxRecDepth 100000 in
set_option maxHeartbeats 8000000 in
theorem lwkeeps_any (s : Sch) (A : Option Addr) (c : Nat) (cs : List Clm) (w : World) (hr : s.wreads w w.heap.size) (h0 : s.nil0) (hA : ClmsW w w.heap.size A cs) (hn : ∀ q ∈ cs, q.nil0) :
    Calls Try.prog 4 #[scv s s.rv, .slice A cs.length c] w fun e w' => e = .returned (.bool true) ∧ Below w.heap.size w w' := by
  have HRR := Lib.hid hr; have HAA := Lib.hid hA; have HN0 := Lib.hid h0; have HN := Lib.hid hn
  clear hr hA h0 hn
  by_cases hg : largeB s 300 = true
  · go_enter Try.func4, Try.ntmps4
    go_wp2_with (first | (go_at_call 14; refine (large_any s 300 _ ((HRR.out.below (by (repeat (first | exact Below.refl _ _ | assumption | (refine Below.alloc ?_ (by first | omega | (simp; omega) | (simp; done)) _) | (refine Below.setCell ?_ (by first | omega | (simp; omega) | (simp; done)) _) | (refine Below.drew ?_) | (refine belowN ?_ _) | (refine Below.trans ?_ (Below.mono ‹Below _ _ _› (by first | omega | (simp; omega) | (simp; done)))))))).more (by simp))).mono ?_; rintro _ W1 ⟨rfl, hb1⟩; have hw1 : Below w.heap.size w W1 := bl2 (bla (Below.refl _ _)) hb1; rw [hg]) | (go_at_call 15; refine (known_any _).mono ?_; rintro _ Wk ⟨rfl, hbk'⟩))
    go_ret
    exact ⟨rfl, bl2 hw1 hbk'⟩
  · simp only [Bool.not_eq_true] at hg
    by_cases h25 : cs.length ≤ 25
    · by_cases h10 : ∀ q ∈ cs, q.sets.length ≤ 10
      · exact lwkeeps_ok s A c cs w HRR HN0 (HAA.out.reads h25 h10) HN hg h25 h10
      · have H10 := Lib.hid h10
        have d1 : decide (25 < (cs.length : Int)) = false := by simp; omega
        have d1' : decide (25 < cs.length) = false := by simp; omega
        clear h10
        go_enter Try.func4, Try.ntmps4
        go_wp2_with (go_at_call 14; refine (large_any s 300 _ ((HRR.out.below (by (repeat (first | exact Below.refl _ _ | assumption | (refine Below.alloc ?_ (by first | omega | (simp; omega) | (simp; done)) _) | (refine Below.setCell ?_ (by first | omega | (simp; omega) | (simp; done)) _) | (refine Below.drew ?_) | (refine belowN ?_ _) | (refine Below.trans ?_ (Below.mono ‹Below _ _ _› (by first | omega | (simp; omega) | (simp; done)))))))).more (by simp))).mono ?_; rintro _ W1 ⟨rfl, hbx⟩; rw [hg]; have hw1 := bl2 (bla (Below.refl _ _)) hbx)
        clear d1 d1'
        refine gen_w (fun W => Below w.heap.size w W) hw1 ?_
        clear hw1 hbx
        clear W1
        intro w0 hw0
        go_loopw [5] (fun i wr => ∃ j : Nat, j ≤ cs.length ∧ i = .int .i64 j ∧ Below w0.heap.size w0 wr ∧ Hid (∀ q ∈ cs.take j, q.sets.length ≤ 10)) (fun i _ => cs.length - (intOf i).toNat)
        case atStart => exact ⟨0, by omega, rfl, Below.refl _ _, fun q hq => by cases hq⟩
        case round =>
          obtain ⟨j, hj, rfl, hb, HT⟩ := hrel
          have hw1 : Below w.heap.size w wr := bl2 hw0 hb
          by_cases hlt : j < cs.length
          · have hrr := (HAA.out.1.below hw1)
            obtain ⟨ab, ao, rfl, hblk, hcell⟩ := hrr.at_ (k := j) (fun _ => rfl) hlt
            have HTK := Lib.hid (List.take_succ_eq_append_getElem hlt)
            obtain ⟨q, hqe⟩ : ∃ t, cs[j] = t := ⟨_, rfl⟩
            rw [hqe] at hcell HTK
            have cw1 : wr.cell? ⟨ab, ao + j * 4 + 1, none⟩ = some (Value.slice q.sa q.sets.length q.sc) := hcell 1 _ rfl
            have hj0 : (0 : Int) ≤ (j : Int) := by omega
            have hj1 : (j : Int) < (cs.length : Int) := by omega
            clear hcell hrr hqe
            by_cases hq10 : q.sets.length ≤ 10
            · have d2 : decide (10 < (q.sets.length : Int)) = false := by simp; omega
              have d2' : decide (10 < q.sets.length) = false := by simp; omega
              go_wp2
              go_roundw
              case rel => exact ⟨j + 1, by omega, by go_num, hb, fun p hp => by
                rw [HTK.out] at hp
                rcases List.mem_append.1 hp with h | h
                · exact HT.out p h
                · obtain rfl : p = q := by simpa using h
                  exact hq10⟩
              case measure => simp [intOf]; omega
            · have d2 : decide (10 < (q.sets.length : Int)) = true := by simp; omega
              have d2' : decide (10 < q.sets.length) = true := by simp; omega
              go_wp2_with (go_at_call 15; refine (known_any _).mono ?_; rintro _ Wk ⟨rfl, hbk'⟩)
              go_ret
              exact ⟨rfl, bl2 hw1 hbk'⟩
          · exact absurd (by have := HT.out; rwa [List.take_of_length_le (by omega)] at this) H10.out
    · have d1 : decide (25 < (cs.length : Int)) = true := by simp; omega
      have d1' : decide (25 < cs.length) = true := by simp; omega
      go_enter Try.func4, Try.ntmps4
      go_wp2_with (first | (go_at_call 14; refine (large_any s 300 _ ((HRR.out.below (by (repeat (first | exact Below.refl _ _ | assumption | (refine Below.alloc ?_ (by first | omega | (simp; omega) | (simp; done)) _) | (refine Below.setCell ?_ (by first | omega | (simp; omega) | (simp; done)) _) | (refine Below.drew ?_) | (refine belowN ?_ _) | (refine Below.trans ?_ (Below.mono ‹Below _ _ _› (by first | omega | (simp; omega) | (simp; done)))))))).more (by simp))).mono ?_; rintro _ W1 ⟨rfl, hb1⟩; have hw1 : Below w.heap.size w W1 := bl2 (bla (Below.refl _ _)) hb1; rw [hg]) | (go_at_call 15; refine (known_any _).mono ?_; rintro _ Wk ⟨rfl, hbk'⟩))
      go_ret
      exact ⟨rfl, bl2 hw1 hbk'⟩
end Go.Proofs.Ytidlmbajpbbilaa

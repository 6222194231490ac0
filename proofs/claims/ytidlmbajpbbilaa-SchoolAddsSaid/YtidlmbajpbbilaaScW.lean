/- School: Idle. -/
import Derived.Test.YtidlmbajpbbilaaScV
namespace Go.Proofs.Ytidlmbajpbbilaa
open Go.RowKit
attribute [local go_sem] Oper.semAt_some

/-- without the rules O all charts are read as by the whole school -/
def sameB (s : Sch) (O : Nat) : Bool := (List.range (chartsC s)).all fun j => (List.range s.kinds.toNat).all fun k => ansN s O (k : Int) (chartL s j) == ansN s 0 (k : Int) (chartL s j)
theorem sameB_iff {s : Sch} {O : Nat} : sameB s O = true ↔ ∀ h k, SeenK s h k → ansH s O h (k : Int) = ansH s 0 h (k : Int) := by
  simp only [sameB, List.all_eq_true, List.mem_range, beq_iff_eq, ansN_eq]
  constructor
  · rintro h hh k ⟨hk, j, hj, rfl⟩
    exact h j hj k (by omega)
  · intro h j hj k hk
    exact h _ k ⟨by omega, j, hj, rfl⟩
theorem same_val {s : Sch} (V : Valid s) {p O hm rm n : Nat} {D : DW} {i : Nat} {w : World} (hP : PrAt w p s O hm rm) (hR : w.ownsMap Try.prog 149 (plainElem Try.prog 112) rm n D) (hM : RM s D (SeenK s))
    (hr : s.reads w w.heap.size) (hO : O < 4294967296) (hi : i < 32) :
    Calls Try.prog 79 #[.pointer (some ⟨p, 0, none⟩), .int .i64 (i : Int)] w fun e w' => e = .returned (.bool (sameB s (O ||| 2 ^ i))) ∧ Below w.heap.size w w' :=
  (same_any s V p O hm rm n D (SeenK s) i w hP hR hM (fun _ _ h => h.1) hr hO hi).mono fun e w' h => by
    obtain ⟨⟨b, rfl, hb⟩, hbel⟩ := h
    refine ⟨?_, hbel⟩
    have : b = sameB s (O ||| 2 ^ i) := by rw [Bool.eq_iff_iff, hb, sameB_iff]
    rw [this]
def idleL (s : Sch) (n : Nat) : List Int := ((List.range n).filter fun i => sameB s (2 ^ i)).map fun (i : Nat) => (i : Int)
theorem idleL_succ (s : Sch) (n : Nat) : idleL s (n + 1) = idleL s n ++ if sameB s (2 ^ n) then [(n : Int)] else [] := by
  unfold idleL
  rw [List.range_succ, List.filter_append, List.map_append]
  by_cases h : sameB s (2 ^ n) = true <;> simp [h]
theorem idleL_len (s : Sch) (n : Nat) : (idleL s n).length ≤ n := by
  unfold idleL
  rw [List.length_map]
  exact Nat.le_trans (List.length_filter_le _ _) (by simp)
def idleR (s : Sch) : List Int × Int := if schB s then (idleL s s.rules.length, 0) else ([], 2)
set_option maxRecDepth 100000 in
set_option maxHeartbeats 4000000 in
theorem idle_any (s : Sch) (w : World) (hr : s.reads w w.heap.size) : Calls Try.prog 45 #[scv s s.rv] w (RetSlE (idleR s).1 (idleR s).2 w) := by
  by_cases vs : schB s = true
  · have V := valid_of hr.oks vs
    have HC := fun W (hW : Below w.heap.size w W) => Lib.hid (chk_any vs W ((hr.below hW).more hW.size))
    have HN := fun W (hW : Below w.heap.size w W) => Lib.hid (newPruner_any s V W ((hr.below hW).more hW.size))
    have HR : Hid (idleR s = (idleL s s.rules.length, 0)) := (by simp [idleR, vs] : idleR s = (idleL s s.rules.length, 0))
    have hlen := V.len
    have HRR := Lib.hid hr
    clear hr
    obtain ⟨i0, hi, iz0, iz1, iz2⟩ := info_parts infoInt
    go_enter Try.func45, Try.ntmps45
    go_wp2_with fail
    refine ((HC _ (by (repeat (first | exact Below.refl _ _ | assumption | (refine Below.alloc ?_ (by first | omega | (simp; omega) | (simp; done)) _) | (refine Below.setCell ?_ (by first | omega | (simp; omega) | (simp; done)) _) | (refine Below.drew ?_) | (refine belowN ?_ _) | (refine Below.trans ?_ (Below.mono ‹Below _ _ _› (by first | omega | (simp; omega) | (simp; done)))))))).out).mono ?_
    rintro e w1 ⟨rfl, hb1⟩
    have hc1 := fun b o (h : b < w.heap.size + 1) => (bcell hb1).1 b o (by simp; omega)
    have hf1 := fun b o (h : b < w.heap.size + 1) => (bcell hb1).2 b o (by simp; omega)
    have hk1 := fun b (h : b < w.heap.size + 1) => hb1.block b (by simp; omega)
    have hz1 : w.heap.size + 1 ≤ w1.heap.size := (by have := hb1.size; simp at this; omega)
    go_wp2_with fail
    refine ((HN w1 (by (repeat (first | exact Below.refl _ _ | assumption | (refine Below.alloc ?_ (by first | omega | (simp; omega) | (simp; done)) _) | (refine Below.setCell ?_ (by first | omega | (simp; omega) | (simp; done)) _) | (refine Below.drew ?_) | (refine belowN ?_ _) | (refine Below.trans ?_ (Below.mono ‹Below _ _ _› (by first | omega | (simp; omega) | (simp; done)))))))).out).mono ?_
    rintro e w2 ⟨p, hm, rm, n, D, rfl, hP, hR, hM, hp, hb2⟩
    have hc2 := fun b o (h : b < w.heap.size + 1) => ((bcell hb2).1 b o (by omega)).trans (hc1 b o h)
    have hf2 := fun b o (h : b < w.heap.size + 1) => ((bcell hb2).2 b o (by omega)).trans (hf1 b o h)
    have hk2 := fun b (h : b < w.heap.size + 1) => (hb2.block b (by omega)).trans (hk1 b h)
    have hz2 : w.heap.size + 1 ≤ w2.heap.size := (by have := hb2.size; omega)
    have hbw2 : Below w.heap.size w w2 := by (repeat (first | exact Below.refl _ _ | assumption | (refine Below.alloc ?_ (by first | omega | (simp; omega) | (simp; done)) _) | (refine Below.setCell ?_ (by first | omega | (simp; omega) | (simp; done)) _) | (refine Below.drew ?_) | (refine belowN ?_ _) | (refine Below.trans ?_ (Below.mono ‹Below _ _ _› (by first | omega | (simp; omega) | (simp; done))))))
    have HP := Lib.hid hP; have HRM := Lib.hid hR; have HB2 := Lib.hid hbw2
    have l0 : w.heap.size < w2.heap.size := by omega
    have hpl := hP.lt
    have hrl := hR.lt
    clear hP hR hbw2 hb1 hb2 hk1 hk2 hf1 hf2
    go_wp2
    go_loopw [6, 18] (fun v i wr => ∃ k : Nat, k ≤ s.rules.length ∧ i = .int .i64 k ∧ wr.ownsRow w2.heap.size 3 1 v (idleL s k).length ((idleL s k).map (Value.int .i64)) ∧ Below w2.heap.size w2 wr) (fun _ i _ => s.rules.length - (intOf i).toNat)
    case atStart => exact ⟨0, by omega, rfl, World.ownsRow_nil _ _ _ _, Below.refl _ _⟩
    case round =>
      obtain ⟨k, hk, rfl, hown, hb⟩ := hrel
      have hsz := hb.size
      have HO := Lib.hid hown
      by_cases hlt : k < s.rules.length
      · have HS := Lib.hid (idleL_succ s k)
        have hl := idleL_len s k
        have hbw := HB2.out.trans (hb.mono HB2.out.size)
        have HSM := Lib.hid (same_val V (i := k) (HP.out.below hb hpl) (ownsMap_below HRM.out hb hrl) hM ((HRR.out.below hbw).more hbw.size) (by omega) (by omega))
        rw [Nat.zero_or] at HSM
        by_cases hbit : sameB s (2 ^ k) = true
        · rw [hbit] at HSM HS
          clear hbit hbw
          go_wp2_with fail
          refine HSM.out.mono ?_
          rintro e w3 ⟨rfl, hb3⟩
          have hz3 := hb3.size
          have hown3 := (Stab.owns (B := 0) _ _ _ _ _).below hown hb3
          have hbb3 := hb.trans (hb3.mono hsz)
          clear hown HO
          go_wp2_with (at_builtin; refine wpList_append_own _ rfl _ _ 28 rfl w2.heap.size 3 i0 (.int .i64 0) 1 8 uInts hi iz0 iz1 iz2 rfl (by decide) _ _ _ rfl (hown3.alloc _) ⟨w3.heap.size, 0, none⟩ 1 1 [.int .i64 (k : Int)] rfl rfl (cell_one_new _ _ _) (by simp [Value.oneCell']) (by unfold maxLen; omega) (by omega) (by simp; omega) ?_; intro v' w4 hown4 hgrow _)
          have hb4 : Below w2.heap.size w2 w4 := (hbb3.alloc (by omega) _).grown hgrow (by simp; omega) (fun g hg => (hown3.lt g hg).1)
          have HO4 := Lib.hid hown4
          clear hown3 hown4 hgrow
          go_wp2
          go_roundw
          case rel => exact ⟨k + 1, by omega, by go_num, by rw [HS.out]; simpa using HO4.out, hb4⟩
          case measure => simp [intOf]; omega
        · simp only [Bool.not_eq_true] at hbit
          rw [hbit] at HSM HS
          clear hbit hbw
          go_wp2_with fail
          refine HSM.out.mono ?_
          rintro e w3 ⟨rfl, hb3⟩
          have hz3 := hb3.size
          have HO3 := Lib.hid ((Stab.owns (B := 0) _ _ _ _ _).below hown hb3)
          have hbb3 := hb.trans (hb3.mono hsz)
          clear hown HO
          go_wp2
          go_roundw
          case rel => exact ⟨k + 1, by omega, by go_num, by rw [HS.out]; simpa using HO3.out, hbb3⟩
          case measure => simp [intOf]; omega
      · obtain rfl : k = s.rules.length := by omega
        have HBW := Lib.hid (HB2.out.trans (hb.mono HB2.out.size))
        rw [← flat_one] at hown
        obtain ⟨A, c, rfl, hsl⟩ := Sl.of_own hown
        have HS := Lib.hid hsl
        clear hown hsl HO
        go_wp2
        go_ret2
        rw [HR.out]
        exact ⟨A, c, rfl, HS.out, HBW.out⟩
  · simp only [Bool.not_eq_true] at vs
    have HC := fun W (hW : Below w.heap.size w W) => Lib.hid (chk_any vs W ((hr.below hW).more hW.size))
    have HR : Hid (idleR s = ([], 2)) := (by simp [idleR, vs] : idleR s = ([], 2))
    go_enter Try.func45, Try.ntmps45
    go_wp2_with fail
    refine ((HC _ (by (repeat (first | exact Below.refl _ _ | assumption | (refine Below.alloc ?_ (by first | omega | (simp; omega) | (simp; done)) _) | (refine Below.setCell ?_ (by first | omega | (simp; omega) | (simp; done)) _) | (refine Below.drew ?_) | (refine belowN ?_ _) | (refine Below.trans ?_ (Below.mono ‹Below _ _ _› (by first | omega | (simp; omega) | (simp; done)))))))).out).mono ?_
    rintro e w1 ⟨rfl, hb1⟩
    go_wp2
    go_ret2
    rw [HR.out]
    exact retSlE_nil (by (repeat (first | exact Below.refl _ _ | assumption | (refine Below.alloc ?_ (by first | omega | (simp; omega) | (simp; done)) _) | (refine Below.setCell ?_ (by first | omega | (simp; omega) | (simp; done)) _) | (refine Below.drew ?_) | (refine belowN ?_ _) | (refine Below.trans ?_ (Below.mono ‹Below _ _ _› (by first | omega | (simp; omega) | (simp; done)))))))
end Go.Proofs.Ytidlmbajpbbilaa

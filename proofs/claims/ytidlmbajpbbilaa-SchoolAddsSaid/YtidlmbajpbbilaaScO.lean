/- School: Chart, Number, Read. -/
import Derived.Test.YtidlmbajpbbilaaScN
namespace Go.Proofs.Ytidlmbajpbbilaa
open Go.RowKit

/-- a list and an error are returned -/
def RetSlE (l : List Int) (er : Int) (w : World) (e : Ending) (w' : World) : Prop :=
  ∃ A c, e = .returned (.tuple #[.slice A l.length c, .int .i64 er]) ∧ Sl intCell 1 w' w'.heap.size A l ∧ Below w.heap.size w w'
theorem retSlE_nil {er : Int} {w w' : World} (h : Below w.heap.size w w') : RetSlE [] er w (.returned (.tuple #[.slice none 0 0, .int .i64 er])) w' :=
  ⟨none, 0, rfl, Reads.none_, h⟩
def chartR (s : Sch) (n : Int) : List Int × Int := if schB s then (if inB n 0 (chartsN s.signs s.places.toNat - 1) then (chartL s n, 0) else ([], 3)) else ([], 2)

set_option maxRecDepth 100000 in
set_option maxHeartbeats 1000000 in
theorem chartF_any (s : Sch) (n : Int) (w : World) (hr : s.reads w w.heap.size) : Calls Try.prog 32 #[scv s s.rv, .int .i64 n] w (RetSlE (chartR s n).1 (chartR s n).2 w) := by
  by_cases vs : schB s = true
  · have V := valid_of hr.oks vs
    have HC := fun W (hW : Below w.heap.size w W) => Lib.hid (chk_any vs W ((hr.below hW).more hW.size))
    have HN := fun W => Lib.hid (charts_any s s.rv V.places.1 V.places.2 V.signs.1 V.signs.2 W)
    have hcb := chartsN_bd s.signs V.signs.1 s.places.toNat
    by_cases hn : inB n 0 (chartsN s.signs s.places.toNat - 1) = true
    · have hn2 := inB_iff.1 hn
      have hc := V.charts
      have HCH := fun W => Lib.hid (chart_any s s.rv n V.small hn2.1 (by omega) W)
      have HR : Hid (chartR s n = (chartL s n, 0)) := (by simp [chartR, vs, hn] : chartR s n = (chartL s n, 0))
      go_enter Try.func32, Try.ntmps32
      go_wp2_with fail
      refine ((HC _ (by (repeat (first | exact Below.refl _ _ | assumption | (refine Below.alloc ?_ (by first | omega | (simp; omega) | (simp; done)) _) | (refine Below.setCell ?_ (by first | omega | (simp; omega) | (simp; done)) _) | (refine Below.drew ?_) | (refine belowN ?_ _) | (refine Below.trans ?_ (Below.mono ‹Below _ _ _› (by first | omega | (simp; omega) | (simp; done)))))))).out).mono ?_
      rintro e w1 ⟨rfl, hb1⟩
      (have hc1 := fun b o (h : b < w.heap.size + 1) => (bcell hb1).1 b o (by simp; omega); have hz1 : w.heap.size + 1 ≤ w1.heap.size := (by have := hb1.size; simp at this; omega))
      go_wp2_with fail
      refine ((HN _).out).mono ?_
      rintro e w2 ⟨rfl, hb2⟩
      (have hc2 := fun b o (h : b < w.heap.size + 1) => ((bcell hb2).1 b o (by omega)).trans (hc1 b o h); have hz2 : w.heap.size + 1 ≤ w2.heap.size := (by have := hb2.size; omega))
      go_wp2_with (go_at_call 67; refine (within_any _ _ _ _).mono ?_; rintro e w' ⟨rfl, rfl⟩)
      refine ((HCH _).out).mono ?_
      rintro e w3 ⟨v, rfl, hown, hb3⟩
      obtain ⟨A, c, rfl, hsl⟩ := Sl.of_own hown
      have HS := Lib.hid hsl
      have hz3 := hb3.size
      clear hown hsl
      go_wp2
      go_ret2
      rw [HR.out]
      exact ⟨A, c, rfl, HS.out, by (repeat (first | exact Below.refl _ _ | assumption | (refine Below.alloc ?_ (by first | omega | (simp; omega) | (simp; done)) _) | (refine Below.setCell ?_ (by first | omega | (simp; omega) | (simp; done)) _) | (refine Below.drew ?_) | (refine belowN ?_ _) | (refine Below.trans ?_ (Below.mono ‹Below _ _ _› (by first | omega | (simp; omega) | (simp; done))))))⟩
    · simp only [Bool.not_eq_true] at hn
      have HR : Hid (chartR s n = ([], 3)) := (by simp [chartR, vs, hn] : chartR s n = ([], 3))
      go_enter Try.func32, Try.ntmps32
      go_wp2_with fail
      refine ((HC _ (by (repeat (first | exact Below.refl _ _ | assumption | (refine Below.alloc ?_ (by first | omega | (simp; omega) | (simp; done)) _) | (refine Below.setCell ?_ (by first | omega | (simp; omega) | (simp; done)) _) | (refine Below.drew ?_) | (refine belowN ?_ _) | (refine Below.trans ?_ (Below.mono ‹Below _ _ _› (by first | omega | (simp; omega) | (simp; done)))))))).out).mono ?_
      rintro e w1 ⟨rfl, hb1⟩
      (have hc1 := fun b o (h : b < w.heap.size + 1) => (bcell hb1).1 b o (by simp; omega); have hz1 : w.heap.size + 1 ≤ w1.heap.size := (by have := hb1.size; simp at this; omega))
      go_wp2_with fail
      refine ((HN _).out).mono ?_
      rintro e w2 ⟨rfl, hb2⟩
      (have hc2 := fun b o (h : b < w.heap.size + 1) => ((bcell hb2).1 b o (by omega)).trans (hc1 b o h); have hz2 : w.heap.size + 1 ≤ w2.heap.size := (by have := hb2.size; omega))
      go_wp2_with (go_at_call 67; refine (within_any _ _ _ _).mono ?_; rintro e w' ⟨rfl, rfl⟩)
      go_ret2
      rw [HR.out]
      exact retSlE_nil (by (repeat (first | exact Below.refl _ _ | assumption | (refine Below.alloc ?_ (by first | omega | (simp; omega) | (simp; done)) _) | (refine Below.setCell ?_ (by first | omega | (simp; omega) | (simp; done)) _) | (refine Below.drew ?_) | (refine belowN ?_ _) | (refine Below.trans ?_ (Below.mono ‹Below _ _ _› (by first | omega | (simp; omega) | (simp; done)))))))
  · simp only [Bool.not_eq_true] at vs
    have HC := fun W (hW : Below w.heap.size w W) => Lib.hid (chk_any vs W ((hr.below hW).more hW.size))
    have HR : Hid (chartR s n = ([], 2)) := (by simp [chartR, vs] : chartR s n = ([], 2))
    go_enter Try.func32, Try.ntmps32
    go_wp2_with fail
    refine ((HC _ (by (repeat (first | exact Below.refl _ _ | assumption | (refine Below.alloc ?_ (by first | omega | (simp; omega) | (simp; done)) _) | (refine Below.setCell ?_ (by first | omega | (simp; omega) | (simp; done)) _) | (refine Below.drew ?_) | (refine belowN ?_ _) | (refine Below.trans ?_ (Below.mono ‹Below _ _ _› (by first | omega | (simp; omega) | (simp; done)))))))).out).mono ?_
    rintro e w1 ⟨rfl, hb1⟩
    (have hc1 := fun b o (h : b < w.heap.size + 1) => (bcell hb1).1 b o (by simp; omega); have hz1 : w.heap.size + 1 ≤ w1.heap.size := (by have := hb1.size; simp at this; omega))
    go_wp2
    go_ret2
    rw [HR.out]
    exact retSlE_nil (by (repeat (first | exact Below.refl _ _ | assumption | (refine Below.alloc ?_ (by first | omega | (simp; omega) | (simp; done)) _) | (refine Below.setCell ?_ (by first | omega | (simp; omega) | (simp; done)) _) | (refine Below.drew ?_) | (refine belowN ?_ _) | (refine Below.trans ?_ (Below.mono ‹Below _ _ _› (by first | omega | (simp; omega) | (simp; done)))))))

/-- the number of a list of figures -/
def numN (sg : Int) (l : List Int) : Int := l.foldl (fun n f => n * sg + f) 0
theorem numN_succ (sg : Int) (l : List Int) {j : Nat} (h : j < l.length) : numN sg (l.take (j + 1)) = numN sg (l.take j) * sg + l[j] := by
  simp only [numN]; rw [List.take_succ_eq_append_getElem h, List.foldl_append]; rfl
def numberR (s : Sch) (l : List Int) : Int × Int := if schB s then (if chartB s l then (numN s.signs l, 0) else (0, 4)) else (0, 2)

set_option maxRecDepth 100000 in
set_option maxHeartbeats 1000000 in
theorem number_any (s : Sch) (l : List Int) (A : Option Addr) (c : Nat) (w : World) (hr : s.reads w w.heap.size) (hl : l.length ≤ 1000000) (hA : Sl intCell 1 w w.heap.size A l) :
    Calls Try.prog 39 #[scv s s.rv, .slice A l.length c] w (Ret2 (numberR s l) w) := by
  by_cases vs : schB s = true
  · have V := valid_of hr.oks vs
    have HC := fun W (hW : Below w.heap.size w W) => Lib.hid (chk_any vs W ((hr.below hW).more hW.size))
    have HI := fun W (hW : Below w.heap.size w W) => Lib.hid (isChart_any s s.rv A c l W V.small hl ((hA.below hW).more hW.size))
    by_cases hc : chartB s l = true
    · have HR : Hid (numberR s l = (numN s.signs l, 0)) := (by simp [numberR, vs, hc] : numberR s l = (numN s.signs l, 0))
      rw [hc] at HI
      have hlen : l.length ≤ 6 := by have := V.places; simp [chartB] at hc; omega
      have hfs : ∀ j, (h : j < l.length) → 0 ≤ l[j] ∧ l[j] < s.signs := fun j h => by
        simp [chartB, inB] at hc
        have := hc.2 _ (List.getElem_mem h); omega
      have hsg := V.signs
      have HA := Lib.hid hA
      have HFS := Lib.hid hfs
      clear hc hA hfs V vs
      go_enter Try.func39, Try.ntmps39
      go_wp2_with fail
      refine ((HC _ (by (repeat (first | exact Below.refl _ _ | assumption | (refine Below.alloc ?_ (by first | omega | (simp; omega) | (simp; done)) _) | (refine Below.setCell ?_ (by first | omega | (simp; omega) | (simp; done)) _) | (refine Below.drew ?_) | (refine belowN ?_ _) | (refine Below.trans ?_ (Below.mono ‹Below _ _ _› (by first | omega | (simp; omega) | (simp; done)))))))).out).mono ?_
      rintro e w1 ⟨rfl, hb1⟩
      (have hc1 := fun b o (h : b < w.heap.size + 1) => (bcell hb1).1 b o (by simp; omega); have hz1 : w.heap.size + 1 ≤ w1.heap.size := (by have := hb1.size; simp at this; omega))
      go_wp2_with fail
      refine ((HI _ (by (repeat (first | exact Below.refl _ _ | assumption | (refine Below.alloc ?_ (by first | omega | (simp; omega) | (simp; done)) _) | (refine Below.setCell ?_ (by first | omega | (simp; omega) | (simp; done)) _) | (refine Below.drew ?_) | (refine belowN ?_ _) | (refine Below.trans ?_ (Below.mono ‹Below _ _ _› (by first | omega | (simp; omega) | (simp; done)))))))).out).mono ?_
      rintro e w2 ⟨rfl, hb2⟩
      (have hc2 := fun b o (h : b < w.heap.size + 1) => ((bcell hb2).1 b o (by omega)).trans (hc1 b o h); have hz2 : w.heap.size + 1 ≤ w2.heap.size := (by have := hb2.size; omega))
      go_wp2
      go_loopw [6, 20] (fun v i wr => ∃ j : Nat, j ≤ l.length ∧ i = .int .i64 j ∧ v = .int .i64 (numN s.signs (l.take j)) ∧ 0 ≤ numN s.signs (l.take j) ∧ numN s.signs (l.take j) < 64 ^ j ∧ wr = w2) (fun _ i _ => l.length - (intOf i).toNat)
      case atStart => exact ⟨0, by omega, rfl, rfl, by simp [numN], by simp [numN], rfl⟩
      case round =>
        obtain ⟨j, hj, rfl, rfl, hn0, hn1, rfl⟩ := hrel
        obtain ⟨x, hx⟩ : ∃ x, x = numN s.signs (l.take j) := ⟨_, rfl⟩
        rw [← hx] at hn0 hn1 ⊢
        by_cases hlt : j < l.length
        · have hpow : (64 : Int) ^ j ≤ 64 ^ 5 := by
            have h := Nat.pow_le_pow_right (n := 64) (by omega) (show j ≤ 5 by omega)
            exact_mod_cast h
          obtain ⟨hf0, hf1⟩ := HFS.out j hlt
          obtain ⟨ab, ao, rfl, hblk, hcell⟩ := HA.out.at_ (k := j) (fun _ => rfl) hlt
          have c0 : w.cell? ⟨ab, ao + j, none⟩ = some (.int .i64 l[j]) := by have := hcell 0 _ rfl; simpa using this
          have hm0 : 0 ≤ x * s.signs := Int.mul_nonneg hn0 (by omega)
          have hm1 : x * s.signs ≤ x * 64 := Int.mul_le_mul_of_nonneg_left (by omega) hn0
          have hs2 : Hid (numN s.signs (l.take (j + 1)) = x * s.signs + l[j]) := by show _ = _; rw [numN_succ _ _ hlt, hx]
          have hp6 : (64 : Int) ^ (j + 1) = 64 ^ j * 64 := Int.pow_succ 64 j
          have hbd : Hid (x * s.signs + l[j] < 64 ^ (j + 1)) := Lib.hid (by omega)
          have hs64 : (1 : Int) ≤ s.signs ∧ s.signs ≤ 64 := hsg
          obtain ⟨f, hf⟩ : ∃ f, f = l[j] := ⟨_, rfl⟩
          rw [← hf] at c0 hf0 hf1 hs2 hbd
          have HX := Lib.hid hx
          simp only [Int.reducePow] at hpow
          have hx5 : x < 1073741824 := by omega
          have hm2 : x * s.signs ≤ 68719476736 := by omega
          clear hp6 hcell hx hf hpow hn1 hm1
          go_wp2
          go_roundw
          case rel => exact ⟨j + 1, by omega, by go_num, by rw [hs2.out], by rw [hs2.out]; omega, by rw [hs2.out]; exact hbd.out, by first | rfl | trivial⟩
          case measure => simp [intOf]; omega
        · obtain rfl : j = l.length := by omega
          rw [List.take_length] at hx
          subst hx
          go_wp2
          go_ret2
          rw [HR.out]
          exact ⟨rfl, by (repeat (first | exact Below.refl _ _ | assumption | (refine Below.alloc ?_ (by first | omega | (simp; omega) | (simp; done)) _) | (refine Below.setCell ?_ (by first | omega | (simp; omega) | (simp; done)) _) | (refine Below.drew ?_) | (refine belowN ?_ _) | (refine Below.trans ?_ (Below.mono ‹Below _ _ _› (by first | omega | (simp; omega) | (simp; done))))))⟩
    · simp only [Bool.not_eq_true] at hc
      have HR : Hid (numberR s l = (0, 4)) := (by simp [numberR, vs, hc] : numberR s l = (0, 4))
      rw [hc] at HI
      go_enter Try.func39, Try.ntmps39
      go_wp2_with fail
      refine ((HC _ (by (repeat (first | exact Below.refl _ _ | assumption | (refine Below.alloc ?_ (by first | omega | (simp; omega) | (simp; done)) _) | (refine Below.setCell ?_ (by first | omega | (simp; omega) | (simp; done)) _) | (refine Below.drew ?_) | (refine belowN ?_ _) | (refine Below.trans ?_ (Below.mono ‹Below _ _ _› (by first | omega | (simp; omega) | (simp; done)))))))).out).mono ?_
      rintro e w1 ⟨rfl, hb1⟩
      (have hc1 := fun b o (h : b < w.heap.size + 1) => (bcell hb1).1 b o (by simp; omega); have hz1 : w.heap.size + 1 ≤ w1.heap.size := (by have := hb1.size; simp at this; omega))
      go_wp2_with fail
      refine ((HI _ (by (repeat (first | exact Below.refl _ _ | assumption | (refine Below.alloc ?_ (by first | omega | (simp; omega) | (simp; done)) _) | (refine Below.setCell ?_ (by first | omega | (simp; omega) | (simp; done)) _) | (refine Below.drew ?_) | (refine belowN ?_ _) | (refine Below.trans ?_ (Below.mono ‹Below _ _ _› (by first | omega | (simp; omega) | (simp; done)))))))).out).mono ?_
      rintro e w2 ⟨rfl, hb2⟩
      go_wp2
      go_ret2
      rw [HR.out]
      exact ⟨rfl, by (repeat (first | exact Below.refl _ _ | assumption | (refine Below.alloc ?_ (by first | omega | (simp; omega) | (simp; done)) _) | (refine Below.setCell ?_ (by first | omega | (simp; omega) | (simp; done)) _) | (refine Below.drew ?_) | (refine belowN ?_ _) | (refine Below.trans ?_ (Below.mono ‹Below _ _ _› (by first | omega | (simp; omega) | (simp; done))))))⟩
  · simp only [Bool.not_eq_true] at vs
    have HC := fun W (hW : Below w.heap.size w W) => Lib.hid (chk_any vs W ((hr.below hW).more hW.size))
    have HR : Hid (numberR s l = (0, 2)) := (by simp [numberR, vs] : numberR s l = (0, 2))
    go_enter Try.func39, Try.ntmps39
    go_wp2_with fail
    refine ((HC _ (by (repeat (first | exact Below.refl _ _ | assumption | (refine Below.alloc ?_ (by first | omega | (simp; omega) | (simp; done)) _) | (refine Below.setCell ?_ (by first | omega | (simp; omega) | (simp; done)) _) | (refine Below.drew ?_) | (refine belowN ?_ _) | (refine Below.trans ?_ (Below.mono ‹Below _ _ _› (by first | omega | (simp; omega) | (simp; done)))))))).out).mono ?_
    rintro e w1 ⟨rfl, hb1⟩
    (have hc1 := fun b o (h : b < w.heap.size + 1) => (bcell hb1).1 b o (by simp; omega); have hz1 : w.heap.size + 1 ≤ w1.heap.size := (by have := hb1.size; simp at this; omega))
    go_wp2
    go_ret2
    rw [HR.out]
    exact ⟨rfl, by (repeat (first | exact Below.refl _ _ | assumption | (refine Below.alloc ?_ (by first | omega | (simp; omega) | (simp; done)) _) | (refine Below.setCell ?_ (by first | omega | (simp; omega) | (simp; done)) _) | (refine Below.drew ?_) | (refine belowN ?_ _) | (refine Below.trans ?_ (Below.mono ‹Below _ _ _› (by first | omega | (simp; omega) | (simp; done))))))⟩
end Go.Proofs.Ytidlmbajpbbilaa

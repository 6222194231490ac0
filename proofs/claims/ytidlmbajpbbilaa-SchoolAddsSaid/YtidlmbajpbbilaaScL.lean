/- School: the chart with a number. -/
import Derived.Test.YtidlmbajpbbilaaScK
namespace Go.Proofs.Ytidlmbajpbbilaa
open Go.RowKit

def digits (sg : Int) : Nat → Int → List Int
  | 0, _ => []
  | p + 1, n => digits sg p (n / sg) ++ [n % sg]
def divN (sg : Int) : Nat → Int → Int
  | 0, n => n
  | k + 1, n => divN sg k n / sg
theorem divN_succ (sg : Int) (k : Nat) (n : Int) : divN sg k (n / sg) = divN sg k n / sg := by
  induction k generalizing n with
  | zero => rfl
  | succ k ih => simp only [divN]; rw [ih]
theorem digits_len (sg : Int) (p : Nat) : ∀ n, (digits sg p n).length = p := by
  induction p with
  | zero => intro n; rfl
  | succ p ih => intro n; simp [digits, ih]
theorem digits_cons (sg : Int) (k : Nat) : ∀ n, digits sg (k + 1) n = divN sg k n % sg :: digits sg k n := by
  induction k with
  | zero => intro n; rfl
  | succ k ih =>
    intro n
    rw [digits, ih, divN_succ]
    simp only [digits, divN, List.cons_append]
theorem digits_bd {sg : Int} (h : 1 ≤ sg) (p : Nat) : ∀ n, ∀ x ∈ digits sg p n, 0 ≤ x ∧ x < sg := by
  induction p with
  | zero => intro n x hx; cases hx
  | succ p ih =>
    intro n x hx
    rcases List.mem_append.1 hx with hx | hx
    · exact ih _ x hx
    · simp only [List.mem_singleton] at hx; subst hx; exact ⟨Int.emod_nonneg _ (by omega), Int.emod_lt_of_pos _ (by omega)⟩
theorem divN_bd {sg n : Int} (h : 1 ≤ sg) (h0 : 0 ≤ n) (k : Nat) : 0 ≤ divN sg k n ∧ divN sg k n ≤ n := by
  induction k with
  | zero => exact ⟨h0, Int.le_refl _⟩
  | succ k ih =>
    simp only [divN]
    exact ⟨Int.ediv_nonneg ih.1 (by omega), Int.le_trans (Int.ediv_le_self _ ih.1) ih.2⟩
/-- the cells of a chart behind k rounds -/
def chartTo (sg n : Int) (p k : Nat) : List Value := List.replicate (p - k) (.int .i64 0) ++ (digits sg k n).map (Value.int .i64)
theorem chartTo_succ (sg n : Int) (p k : Nat) (h : k < p) : (chartTo sg n p k).set (p - 1 - k) (.int .i64 (divN sg k n % sg)) = chartTo sg n p (k + 1) := by
  unfold chartTo
  rw [digits_cons, List.set_append_left _ _ (by simp; omega)]
  obtain ⟨d, hd⟩ : ∃ d, p - k = d + 1 := ⟨p - k - 1, by omega⟩
  rw [hd, show p - 1 - k = d by omega, show p - (k + 1) = d by omega, List.replicate_succ', List.set_append_right _ _ (by simp)]
  simp
theorem toList_madeCells_one' (z : Value) (n : Nat) (h : z.cells = #[z]) : (madeCells z.cells (n * 1)).toList = List.replicate n z := by rw [h, Nat.mul_one]; exact toList_madeCells_one z n
abbrev chartL (s : Sch) (n : Int) : List Int := digits s.signs s.places.toNat n

set_option maxRecDepth 100000 in
set_option maxHeartbeats 1000000 in
theorem chart_any (s : Sch) (R : Value) (n : Int) (hs : Small s) (hn : 0 ≤ n) (hn' : n ≤ 4096) (w : World) : Calls Try.prog 73 #[scv s R, .int .i64 n] w (RetOwn 3 intCell 1 (chartL s n) w) := by
  obtain ⟨h1, h2, h3, h4⟩ := hs
  obtain ⟨pl, sg, k, a, ra, rc, rs⟩ := s
  simp only at *
  obtain ⟨p, rfl⟩ := Int.eq_ofNat_of_zero_le (a := pl) (by omega)
  obtain ⟨i0, hi, hz0, hz1, hz2⟩ := info_parts infoInt
  have FIN : ∀ (w' : World) (g : Nat), w'.ownsRow w.heap.size 3 1 (.slice (some ⟨g, 0, none⟩) p p) p (chartTo sg n p p) → Below w.heap.size w w' → RetOwn 3 intCell 1 (digits sg p n) w (.returned (.slice (some ⟨g, 0, none⟩) p p)) w' := fun w' g h hb =>
    ⟨_, rfl, by rw [flat_one, digits_len]; simpa [chartTo] using h, hb⟩
  have HFIN := Lib.hid FIN
  clear FIN
  show Calls Try.prog 73 _ w (RetOwn 3 intCell 1 (digits sg p n) w)
  go_enter Try.func73, Try.ntmps73
  go_wp2_with (at_make; refine wpList_make_full _ rfl _ _ 28 rfl w.heap.size 3 i0 (.int .i64 0) 1 uInts hi hz0 hz1 .i64 .i64 _ _ p rfl rfl rfl rfl (by rw [hz2]; omega) (by unfold maxLen; omega) (by simp) ?_; intro W1 hown1 hgrow1)
  obtain ⟨W0, hW0⟩ : ∃ W0, W0 = w.alloc (Obj.cells #[Value.int IntKind.i64 (p : Int), Value.int IntKind.i64 sg, Value.int IntKind.i64 k, Value.int IntKind.i64 a, R] 24) := ⟨_, rfl⟩
  rw [World.size_alloc] at hown1
  have hB1 : Below (w.heap.size + 1) W0 W1 := by rw [hW0]; exact (Below.refl _ _).grown hgrow1 (by simp) (fun g hg => by cases hg)
  have hwW : Below w.heap.size w W0 := by rw [hW0]; (repeat (first | exact Below.refl _ _ | assumption | (refine Below.alloc ?_ (by first | omega | (simp; omega) | (simp; done)) _) | (refine Below.setCell ?_ (by first | omega | (simp; omega) | (simp; done)) _) | (refine Below.drew ?_) | (refine belowN ?_ _) | (refine Below.trans ?_ (Below.mono ‹Below _ _ _› (by first | omega | (simp; omega) | (simp; done))))))
  have q0 : W0.cell? ⟨w.heap.size, 0, none⟩ = some (.int .i64 (p : Int)) := by rw [hW0]; simp [go_sem]
  have q1 : W0.cell? ⟨w.heap.size, 1, none⟩ = some (.int .i64 sg) := by rw [hW0]; simp [go_sem]
  have Q0 := Lib.hid q0; have Q1 := Lib.hid q1; have HO1 := Lib.hid hown1
  clear hW0 q0 q1 hgrow1 hown1
  go_loopw [1, 12] (fun v i wr => ∃ j : Nat, j ≤ p ∧ i = .int .i64 j ∧ v = .int .i64 (divN sg j n) ∧ Below (w.heap.size + 1) W0 wr ∧ wr.ownsRow w.heap.size 3 1 (.slice (some ⟨w.heap.size + 1, 0, none⟩) p p) p (chartTo sg n p j)) (fun _ i _ => p - (intOf i).toNat)
  case atStart => exact ⟨0, by omega, rfl, rfl, hB1, by have h := HO1.out; rw [toList_madeCells_one' _ _ rfl] at h; simpa [chartTo, digits] using h⟩
  case round =>
    obtain ⟨j, hj, rfl, rfl, hb, hown⟩ := hrel
    have HO := Lib.hid hown
    have c0 : wr.cell? ⟨w.heap.size, 0, none⟩ = some (.int .i64 (p : Int)) := by rw [hb.cell (p := ⟨w.heap.size, 0, none⟩) (by simp)]; exact Q0.out
    have c1 : wr.cell? ⟨w.heap.size, 1, none⟩ = some (.int .i64 sg) := by rw [hb.cell (p := ⟨w.heap.size, 1, none⟩) (by simp)]; exact Q1.out
    obtain ⟨hd0, hd1⟩ := divN_bd h3 hn j
    by_cases hlt : j < p
    · have i0' : 0 ≤ (p : Int) - 1 - j := by omega
      have i1' : (p : Int) - 1 - j < p := by omega
      have cS : ∃ u, wr.cell? ⟨w.heap.size + 1, p - 1 - j, none⟩ = some u := by
        rw [hown.cellAt (p - 1 - j) (by omega)]
        have : p - 1 - j < (chartTo sg n p j).length := by rw [hown.1]; omega
        exact ⟨_, List.getElem?_eq_getElem this⟩
      obtain ⟨u, cS⟩ := cS
      have fS : wr.frozen? ⟨w.heap.size + 1, p - 1 - j, none⟩ = false := hown.frozenAt _
      have HD : Hid (divN sg (j + 1) n = divN sg j n / sg) := (rfl : divN sg (j + 1) n = divN sg j n / sg)
      have HST := fun u => Lib.hid (hown.stored (p - 1 - j) u)
      have HCT := Lib.hid (chartTo_succ sg n p j hlt)
      obtain ⟨d, hd⟩ : ∃ d, d = divN sg j n := ⟨_, rfl⟩
      rw [← hd] at hd0 hd1 HD HCT ⊢
      clear hown hd
      go_wp2
      go_region
      go_wp2
      go_roundw
      case rel => exact ⟨j + 1, by omega, by go_num, by rw [HD.out], by (repeat (first | exact Below.refl _ _ | assumption | (refine Below.alloc ?_ (by first | omega | (simp; omega) | (simp; done)) _) | (refine Below.setCell ?_ (by first | omega | (simp; omega) | (simp; done)) _) | (refine Below.drew ?_) | (refine belowN ?_ _) | (refine Below.trans ?_ (Below.mono ‹Below _ _ _› (by first | omega | (simp; omega) | (simp; done)))))), by rw [← HCT.out]; exact (HST _).out.1⟩
      case measure => simp [intOf]; omega
    · obtain rfl : j = p := by omega
      go_wp2
      go_ret
      exact HFIN.out _ _ HO.out (by (repeat (first | exact Below.refl _ _ | assumption | (refine Below.alloc ?_ (by first | omega | (simp; omega) | (simp; done)) _) | (refine Below.setCell ?_ (by first | omega | (simp; omega) | (simp; done)) _) | (refine Below.drew ?_) | (refine belowN ?_ _) | (refine Below.trans ?_ (Below.mono ‹Below _ _ _› (by first | omega | (simp; omega) | (simp; done)))))))
end Go.Proofs.Ytidlmbajpbbilaa

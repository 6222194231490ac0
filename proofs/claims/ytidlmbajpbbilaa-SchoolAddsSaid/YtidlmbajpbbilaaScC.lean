/- School: tests of rules and cases, regions, charts, and whether tests hold. -/
import Derived.Test.YtidlmbajpbbilaaScB
namespace Go.Proofs.Ytidlmbajpbbilaa
open Go.RowKit

/-- a variable that holds a school -/
def ScBox (W : World) (B : Nat) (s : Sch) (R : Value) : Prop :=
  B < W.heap.size ∧ W.cell? ⟨B, 0, none⟩ = some (.int .i64 s.places) ∧ W.cell? ⟨B, 1, none⟩ = some (.int .i64 s.signs) ∧ W.cell? ⟨B, 2, none⟩ = some (.int .i64 s.kinds) ∧ W.cell? ⟨B, 3, none⟩ = some (.int .i64 s.answers) ∧ W.cell? ⟨B, 4, none⟩ = some R
theorem ScBox.below {W W' : World} {B : Nat} {s : Sch} {R : Value} {n : Nat} (h : ScBox W B s R) (hb : Below n W W') (hn : B < n) : ScBox W' B s R := by
  obtain ⟨h, h0, h1, h2, h3, h4⟩ := h
  have hc := (bcell hb).1
  exact ⟨Nat.lt_of_lt_of_le h hb.size, by rw [hc _ _ hn, h0], by rw [hc _ _ hn, h1], by rw [hc _ _ hn, h2], by rw [hc _ _ hn, h3], by rw [hc _ _ hn, h4]⟩
def Small (s : Sch) : Prop := 1 ≤ s.places ∧ s.places ≤ 6 ∧ 1 ≤ s.signs ∧ s.signs ≤ 64

theorem ent_areTests1 : Ent 90 := ent_of Try.func90 (by kernel_rfl) rfl
theorem areTests1_any (s : Sch) (R : Value) (t : Tst) (B : Nat) (W : World) (ht : t.ok) (hs : Small s) (hbx : ScBox W B s R) :
    Calls Try.prog 90 (#[Value.agg #[.int .i64 t.kind, .int .i64 t.place, .int .i64 t.other, .int .u64 t.set]] ++ #[.pointer (some ⟨B, 0, none⟩)]) W fun e W' => e = .returned (.bool (!tstB s t)) ∧ Below W.heap.size W W' := by
  have HI := fun W => Lib.hid (isTest_any s t R ht hs.1 hs.2.1 hs.2.2.1 hs.2.2.2 W)
  obtain ⟨hB, h0, h1, h2, h3, h4⟩ := hbx
  obtain ⟨p, s, k, a, ra, rc, rs⟩ := s
  simp only at *
  clear ht hs
  go_enter Try.func90, Try.ntmps90
  go_wp2_with fail
  refine (HI _).out.mono ?_
  rintro e w1 ⟨rfl, hb1⟩
  go_wp2
  go_ret
  exact ⟨rfl, by (repeat (first | exact Below.refl _ _ | assumption | (refine Below.alloc ?_ (by first | omega | (simp; omega) | (simp; done)) _) | (refine Below.setCell ?_ (by first | omega | (simp; omega) | (simp; done)) _) | (refine Below.drew ?_) | (refine belowN ?_ _) | (refine Below.trans ?_ (Below.mono ‹Below _ _ _› (by first | omega | (simp; omega) | (simp; done))))))⟩

def testsB (s : Sch) (ts : List Tst) : Bool := decide (ts.length ≤ 6) && ts.all (tstB s)
theorem not_any_not {α : Type} (p : α → Bool) (l : List α) : (!(l.any fun t => !p t)) = l.all p := by
  induction l with
  | nil => rfl
  | cons x l ih => simp only [List.any_cons, List.all_cons, Bool.not_or, Bool.not_not, ih]
theorem areTests_any (s : Sch) (R : Value) (A : Option Addr) (c : Nat) (ts : List Tst) (w : World) (hs : Small s) (hl : ts.length ≤ 1000000) (ho : ∀ t ∈ ts, t.ok) (hr : Sl Tst.cells 4 w w.heap.size A ts) :
    Calls Try.prog 66 #[scv s R, .slice A ts.length c] w fun e w' => e = .returned (.bool (testsB s ts)) ∧ Below w.heap.size w w' := by
  by_cases h6 : ts.length ≤ 6
  · have d6 : decide ((ts.length : Int) ≤ 6) = true := by simp; omega
    have HC : ∀ (W : World) (B : Nat), Below w.heap.size w W → ScBox W B s R → Calls Try.prog 89 #[.slice A ts.length c, .func (.func 90) #[] #[.pointer (some ⟨B, 0, none⟩)]] W fun e w' => e = .returned (.bool (ts.any fun t => !tstB s t)) ∧ Below W.heap.size W w' := by
      intro W B hW hB
      refine tests_any_any 90 _ A c ts _ W ent_areTests1 hl ((hr.below hW).more hW.size) ?_
      intro t ht W' hW'
      exact areTests1_any s R t B W' (ho t ht) hs (hB.below hW' hB.1)
    have HC := fun W B => Lib.hid (HC W B)
    clear ho hr hs
    obtain ⟨p, sg, k, a, ra, rc, rs⟩ := s
    go_enter Try.func66, Try.ntmps66
    go_wp2_with fail
    refine ((HC _ w.heap.size).out (by (repeat (first | exact Below.refl _ _ | assumption | (refine Below.alloc ?_ (by first | omega | (simp; omega) | (simp; done)) _) | (refine Below.setCell ?_ (by first | omega | (simp; omega) | (simp; done)) _) | (refine Below.drew ?_) | (refine belowN ?_ _) | (refine Below.trans ?_ (Below.mono ‹Below _ _ _› (by first | omega | (simp; omega) | (simp; done))))))) ⟨by simp, by simp [go_sem], by simp [go_sem], by simp [go_sem], by simp [go_sem], by simp [go_sem]⟩).mono ?_
    rintro e w1 ⟨rfl, hb1⟩
    go_wp2
    go_ret
    exact ⟨ret_bool (by simp only [testsB, not_any_not]; simp [h6]), by (repeat (first | exact Below.refl _ _ | assumption | (refine Below.alloc ?_ (by first | omega | (simp; omega) | (simp; done)) _) | (refine Below.setCell ?_ (by first | omega | (simp; omega) | (simp; done)) _) | (refine Below.drew ?_) | (refine belowN ?_ _) | (refine Below.trans ?_ (Below.mono ‹Below _ _ _› (by first | omega | (simp; omega) | (simp; done))))))⟩
  · have d6 : decide ((ts.length : Int) ≤ 6) = false := by simp; omega
    clear ho hr hs
    obtain ⟨p, sg, k, a, ra, rc, rs⟩ := s
    go_enter Try.func66, Try.ntmps66
    go_wp2_with fail
    go_ret
    exact ⟨ret_bool (by simp [testsB, h6]), by (repeat (first | exact Below.refl _ _ | assumption | (refine Below.alloc ?_ (by first | omega | (simp; omega) | (simp; done)) _) | (refine Below.setCell ?_ (by first | omega | (simp; omega) | (simp; done)) _) | (refine Below.drew ?_) | (refine belowN ?_ _) | (refine Below.trans ?_ (Below.mono ‹Below _ _ _› (by first | omega | (simp; omega) | (simp; done))))))⟩

theorem isKind_any (s : Sch) (R : Value) (kind : Int) (w : World) (h1 : 1 ≤ s.kinds) (h2 : s.kinds ≤ 4) :
    Calls Try.prog 51 #[scv s R, .int .i64 kind] w fun e w' => e = .returned (.bool (inB kind 0 (s.kinds - 1))) ∧ Below w.heap.size w w' := by
  obtain ⟨p, sg, k, a, ra, rc, rs⟩ := s
  simp only at *
  go_enter Try.func51, Try.ntmps51
  go_wp2_with (first | (go_at_call 67; refine (within_any _ _ _ _).mono ?_; rintro e w' ⟨rfl, rfl⟩))
  go_ret
  exact ⟨rfl, by (repeat (first | exact Below.refl _ _ | assumption | (refine Below.alloc ?_ (by first | omega | (simp; omega) | (simp; done)) _) | (refine Below.setCell ?_ (by first | omega | (simp; omega) | (simp; done)) _) | (refine Below.drew ?_) | (refine belowN ?_ _) | (refine Below.trans ?_ (Below.mono ‹Below _ _ _› (by first | omega | (simp; omega) | (simp; done))))))⟩

theorem ent_regValid1 : Ent 83 := ent_of Try.func83 (by kernel_rfl) rfl
theorem regValid1_any (s : Sch) (R : Value) (x : Int) (B : Nat) (W : World) (hx : 0 ≤ x ∧ x < 18446744073709551616) (hs : Small s) (hbx : ScBox W B s R) :
    Calls Try.prog 83 (#[Value.int .u64 x] ++ #[.pointer (some ⟨B, 0, none⟩)]) W fun e W' => e = .returned (.bool (!fitsB s.signs x)) ∧ Below W.heap.size W W' := by
  have HI := fun W => Lib.hid (fits_any s x R hs.2.2.1 hs.2.2.2 hx.1 hx.2 W)
  obtain ⟨hB, h0, h1, h2, h3, h4⟩ := hbx
  obtain ⟨p, s, k, a, ra, rc, rs⟩ := s
  simp only at *
  clear hx hs
  go_enter Try.func83, Try.ntmps83
  go_wp2_with fail
  refine (HI _).out.mono ?_
  rintro e w1 ⟨rfl, hb1⟩
  go_wp2
  go_ret
  exact ⟨rfl, by (repeat (first | exact Below.refl _ _ | assumption | (refine Below.alloc ?_ (by first | omega | (simp; omega) | (simp; done)) _) | (refine Below.setCell ?_ (by first | omega | (simp; omega) | (simp; done)) _) | (refine Below.drew ?_) | (refine belowN ?_ _) | (refine Below.trans ?_ (Below.mono ‹Below _ _ _› (by first | omega | (simp; omega) | (simp; done))))))⟩
def regB (s : Sch) (l : List Int) : Bool := decide ((l.length : Int) = s.places) && l.all (fitsB s.signs)
def IsU64 (x : Int) : Prop := 0 ≤ x ∧ x < 18446744073709551616
theorem regValid_any (s : Sch) (R : Value) (A : Option Addr) (c : Nat) (l : List Int) (w : World) (hs : Small s) (hl : l.length ≤ 1000000) (ho : ∀ x ∈ l, IsU64 x) (hr : Sl setCell1 1 w w.heap.size A l) :
    Calls Try.prog 52 #[.slice A l.length c, scv s R] w fun e w' => e = .returned (.bool (regB s l)) ∧ Below w.heap.size w w' := by
  by_cases h6 : (l.length : Int) = s.places
  · have d6 : ((l.length : Int) == s.places) = true := by simp [h6]
    have HC : ∀ (W : World) (B : Nat), Below w.heap.size w W → ScBox W B s R → Calls Try.prog 82 #[.slice A l.length c, .func (.func 83) #[] #[.pointer (some ⟨B, 0, none⟩)]] W fun e w' => e = .returned (.bool (l.any fun t => !fitsB s.signs t)) ∧ Below W.heap.size W w' := by
      intro W B hW hB
      refine sets_any_any 83 _ A c l _ W ent_regValid1 hl ((hr.below hW).more hW.size) ?_
      intro t ht W' hW'
      exact regValid1_any s R t B W' (ho t ht) hs (hB.below hW' hB.1)
    have HC := fun W B => Lib.hid (HC W B)
    have H6 := Lib.hid h6
    clear ho hr hs h6
    obtain ⟨p, sg, k, a, ra, rc, rs⟩ := s
    simp only at d6
    go_enter Try.func52, Try.ntmps52
    go_wp2_with fail
    refine ((HC _ w.heap.size).out (by (repeat (first | exact Below.refl _ _ | assumption | (refine Below.alloc ?_ (by first | omega | (simp; omega) | (simp; done)) _) | (refine Below.setCell ?_ (by first | omega | (simp; omega) | (simp; done)) _) | (refine Below.drew ?_) | (refine belowN ?_ _) | (refine Below.trans ?_ (Below.mono ‹Below _ _ _› (by first | omega | (simp; omega) | (simp; done))))))) ⟨by simp, by simp [go_sem], by simp [go_sem], by simp [go_sem], by simp [go_sem], by simp [go_sem]⟩).mono ?_
    rintro e w1 ⟨rfl, hb1⟩
    go_wp2
    go_ret
    exact ⟨ret_bool (by simp only [regB, not_any_not]; simp [H6.out]), by (repeat (first | exact Below.refl _ _ | assumption | (refine Below.alloc ?_ (by first | omega | (simp; omega) | (simp; done)) _) | (refine Below.setCell ?_ (by first | omega | (simp; omega) | (simp; done)) _) | (refine Below.drew ?_) | (refine belowN ?_ _) | (refine Below.trans ?_ (Below.mono ‹Below _ _ _› (by first | omega | (simp; omega) | (simp; done))))))⟩
  · have d6 : ((l.length : Int) == s.places) = false := by simpa using h6
    clear ho hr hs
    obtain ⟨p, sg, k, a, ra, rc, rs⟩ := s
    simp only at d6 h6
    go_enter Try.func52, Try.ntmps52
    go_wp2_with fail
    go_ret
    exact ⟨ret_bool (by simp [regB, h6]), by (repeat (first | exact Below.refl _ _ | assumption | (refine Below.alloc ?_ (by first | omega | (simp; omega) | (simp; done)) _) | (refine Below.setCell ?_ (by first | omega | (simp; omega) | (simp; done)) _) | (refine Below.drew ?_) | (refine belowN ?_ _) | (refine Below.trans ?_ (Below.mono ‹Below _ _ _› (by first | omega | (simp; omega) | (simp; done))))))⟩

theorem ent_isChart1 : Ent 93 := ent_of Try.func93 (by kernel_rfl) rfl
theorem isChart1_any (s : Sch) (R : Value) (x : Int) (B : Nat) (W : World) (hs : Small s) (hbx : ScBox W B s R) :
    Calls Try.prog 93 (#[Value.int .i64 x] ++ #[.pointer (some ⟨B, 0, none⟩)]) W fun e W' => e = .returned (.bool (!inB x 0 (s.signs - 1))) ∧ Below W.heap.size W W' := by
  obtain ⟨hB, h0, h1, h2, h3, h4⟩ := hbx
  obtain ⟨p, s, k, a, ra, rc, rs⟩ := s
  obtain ⟨q1, q2, q3, q4⟩ := hs
  simp only at *
  go_enter Try.func93, Try.ntmps93
  go_wp2_with (first | (go_at_call 67; refine (within_any _ _ _ _).mono ?_; rintro e w' ⟨rfl, rfl⟩))
  go_ret
  exact ⟨rfl, by (repeat (first | exact Below.refl _ _ | assumption | (refine Below.alloc ?_ (by first | omega | (simp; omega) | (simp; done)) _) | (refine Below.setCell ?_ (by first | omega | (simp; omega) | (simp; done)) _) | (refine Below.drew ?_) | (refine belowN ?_ _) | (refine Below.trans ?_ (Below.mono ‹Below _ _ _› (by first | omega | (simp; omega) | (simp; done))))))⟩
def chartB (s : Sch) (l : List Int) : Bool := decide ((l.length : Int) = s.places) && l.all (fun x => inB x 0 (s.signs - 1))
theorem isChart_any (s : Sch) (R : Value) (A : Option Addr) (c : Nat) (l : List Int) (w : World) (hs : Small s) (hl : l.length ≤ 1000000) (hr : Sl intCell 1 w w.heap.size A l) :
    Calls Try.prog 74 #[scv s R, .slice A l.length c] w fun e w' => e = .returned (.bool (chartB s l)) ∧ Below w.heap.size w w' := by
  by_cases h6 : (l.length : Int) = s.places
  · have d6 : ((l.length : Int) == s.places) = true := by simp [h6]
    have HC : ∀ (W : World) (B : Nat), Below w.heap.size w W → ScBox W B s R → Calls Try.prog 86 #[.slice A l.length c, .func (.func 93) #[] #[.pointer (some ⟨B, 0, none⟩)]] W fun e w' => e = .returned (.bool (l.any fun t => !inB t 0 (s.signs - 1))) ∧ Below W.heap.size W w' := by
      intro W B hW hB
      refine ints_any_any 93 _ A c l _ W ent_isChart1 hl ((hr.below hW).more hW.size) ?_
      intro t ht W' hW'
      exact isChart1_any s R t B W' hs (hB.below hW' hB.1)
    have HC := fun W B => Lib.hid (HC W B)
    have H6 := Lib.hid h6
    clear hr hs h6
    obtain ⟨p, sg, k, a, ra, rc, rs⟩ := s
    simp only at d6
    go_enter Try.func74, Try.ntmps74
    go_wp2_with fail
    refine ((HC _ w.heap.size).out (by (repeat (first | exact Below.refl _ _ | assumption | (refine Below.alloc ?_ (by first | omega | (simp; omega) | (simp; done)) _) | (refine Below.setCell ?_ (by first | omega | (simp; omega) | (simp; done)) _) | (refine Below.drew ?_) | (refine belowN ?_ _) | (refine Below.trans ?_ (Below.mono ‹Below _ _ _› (by first | omega | (simp; omega) | (simp; done))))))) ⟨by simp, by simp [go_sem], by simp [go_sem], by simp [go_sem], by simp [go_sem], by simp [go_sem]⟩).mono ?_
    rintro e w1 ⟨rfl, hb1⟩
    go_wp2
    go_ret
    exact ⟨ret_bool (by simp only [chartB, not_any_not]; simp [H6.out]), by (repeat (first | exact Below.refl _ _ | assumption | (refine Below.alloc ?_ (by first | omega | (simp; omega) | (simp; done)) _) | (refine Below.setCell ?_ (by first | omega | (simp; omega) | (simp; done)) _) | (refine Below.drew ?_) | (refine belowN ?_ _) | (refine Below.trans ?_ (Below.mono ‹Below _ _ _› (by first | omega | (simp; omega) | (simp; done))))))⟩
  · have d6 : ((l.length : Int) == s.places) = false := by simpa using h6
    clear hr hs
    obtain ⟨p, sg, k, a, ra, rc, rs⟩ := s
    simp only at d6 h6
    go_enter Try.func74, Try.ntmps74
    go_wp2_with fail
    go_ret
    exact ⟨ret_bool (by simp [chartB, h6]), by (repeat (first | exact Below.refl _ _ | assumption | (refine Below.alloc ?_ (by first | omega | (simp; omega) | (simp; done)) _) | (refine Below.setCell ?_ (by first | omega | (simp; omega) | (simp; done)) _) | (refine Below.drew ?_) | (refine belowN ?_ _) | (refine Below.trans ?_ (Below.mono ‹Below _ _ _› (by first | omega | (simp; omega) | (simp; done))))))⟩

/-- figure f is in the set x -/
def bitB (x f : Int) : Bool := x / 2 ^ f.toNat % 2 == 1
theorem bit_u64 (x f : Int) (hx : IsU64 x) : (bits BinOp.and IntKind.u64 (x / 2 ^ f.toNat) 1 == 0) = !bitB x f := by
  have h0 : (0 : Int) < 2 ^ f.toNat := Int.pow_pos (by omega)
  have h1 : 0 ≤ x / 2 ^ f.toNat := Int.ediv_nonneg hx.1 (by omega)
  have h2 : x / 2 ^ f.toNat ≤ x := Int.ediv_le_self _ hx.1
  have h3 := hx.2
  rw [and_one_u64 _ h1 (by omega)]
  unfold bitB
  have : x / 2 ^ f.toNat % 2 = 0 ∨ x / 2 ^ f.toNat % 2 = 1 := by omega
  rcases this with h | h <;> rw [h] <;> rfl
def hasB : List Int → List Int → Bool
  | x :: xs, f :: fs => bitB x f && hasB xs fs
  | _, _ => true
end Go.Proofs.Ytidlmbajpbbilaa

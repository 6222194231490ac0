/- School: tests. -/
import Derived.Test.YtidlmbajpbbilaaMem
namespace Go.Proofs.Ytidlmbajpbbilaa
open Go.RowKit

def inB (n a b : Int) : Bool := decide (a ≤ n ∧ n ≤ b)
theorem within_any (n a b : Int) (w : World) : Calls Try.prog 67 #[.int .i64 n, .int .i64 a, .int .i64 b] w fun e w' => e = .returned (.bool (inB n a b)) ∧ w = w' := by
  by_cases h1 : a ≤ n
  · go_enter Try.func67, Try.ntmps67
    go_wp2
    go_ret
    exact ⟨by simp [inB, h1], rfl⟩
  · go_enter Try.func67, Try.ntmps67
    go_wp2
    go_ret
    exact ⟨by simp [inB]; omega, rfl⟩

theorem within_val {n a b : Int} {v : Bool} (h : inB n a b = v) (w : World) : Calls Try.prog 67 #[.int .i64 n, .int .i64 a, .int .i64 b] w fun e w' => e = .returned (.bool v) ∧ w = w' := h ▸ within_any n a b w
/-- how many charts: p places of s signs; 4097: too many -/
def chartsN (s : Int) : Nat → Int
  | 0 => 1
  | n + 1 => min (chartsN s n * s) 4097
theorem chartsN_bd (s : Int) (h1 : 1 ≤ s) (n : Nat) : 1 ≤ chartsN s n ∧ chartsN s n ≤ 4097 := by
  induction n with
  | zero => simp [chartsN]
  | succ n ih =>
    simp only [chartsN]
    have : 1 * 1 ≤ chartsN s n * s := Int.mul_le_mul ih.1 h1 (by omega) (by omega)
    omega

structure Tst where
  kind : Int
  place : Int
  other : Int
  set : Int
def Tst.cells (t : Tst) : List Value := [.int .i64 t.kind, .int .i64 t.place, .int .i64 t.other, .int .u64 t.set]
def Tst.ok (t : Tst) : Prop := (Value.int .i64 t.kind).oneCell' = true ∧ (0 ≤ t.set ∧ t.set < 18446744073709551616)
/-- a rule, with the addresses and capacities of its lists -/
structure Rul where
  wa : Option Addr
  wc : Nat
  when_ : List Tst
  kinds : Int
  rank : Int
  ua : Option Addr
  uc : Nat
  unless_ : List Int
  says : Int
structure Sch where
  places : Int
  signs : Int
  kinds : Int
  answers : Int
  ra : Option Addr
  rc : Nat
  rules : List Rul
abbrev Sch.rv (s : Sch) : Value := .slice s.ra s.rules.length s.rc
abbrev scv (s : Sch) (R : Value) : Value := .agg #[.int .i64 s.places, .int .i64 s.signs, .int .i64 s.kinds, .int .i64 s.answers, R]
abbrev Rul.cells (r : Rul) : List Value := [.slice r.wa r.when_.length r.wc, .int .i64 r.kinds, .int .i64 r.rank, .slice r.ua r.unless_.length r.uc, .int .i64 r.says]
abbrev rlv (r : Rul) : Value := .agg #[.slice r.wa r.when_.length r.wc, .int .i64 r.kinds, .int .i64 r.rank, .slice r.ua r.unless_.length r.uc, .int .i64 r.says]
def Rul.reads (w : World) (B : Nat) (r : Rul) : Prop := Sl Tst.cells 4 w B r.wa r.when_ ∧ Sl (fun x => [Value.int .i64 x]) 1 w B r.ua r.unless_ ∧ r.when_.length ≤ 1000000 ∧ r.unless_.length ≤ 1000000 ∧ (∀ t ∈ r.when_, t.ok)
def Sch.reads (w : World) (B : Nat) (s : Sch) : Prop := Sl Rul.cells 5 w B s.ra s.rules ∧ s.rules.length ≤ 1000000 ∧ ∀ r ∈ s.rules, r.reads w B
theorem Rul.reads.below {w w' : World} {B : Nat} {r : Rul} (h : r.reads w B) (hb : Below B w w') : r.reads w' B := ⟨h.1.below hb, h.2.1.below hb, h.2.2⟩
theorem Rul.reads.more {w : World} {B B' : Nat} {r : Rul} (h : r.reads w B) (hb : B ≤ B') : r.reads w B' := ⟨h.1.more hb, h.2.1.more hb, h.2.2⟩
theorem Sch.reads.below {w w' : World} {B : Nat} {s : Sch} (h : s.reads w B) (hb : Below B w w') : s.reads w' B := ⟨h.1.below hb, h.2.1, fun r hr => (h.2.2 r hr).below hb⟩
theorem Sch.reads.more {w : World} {B B' : Nat} {s : Sch} (h : s.reads w B) (hb : B ≤ B') : s.reads w B' := ⟨h.1.more hb, h.2.1, fun r hr => (h.2.2 r hr).more hb⟩

theorem charts_any (s : Sch) (R : Value) (hp : 1 ≤ s.places) (hp' : s.places ≤ 6) (hs : 1 ≤ s.signs) (hs' : s.signs ≤ 64) (w : World) :
    Calls Try.prog 72 #[scv s R] w fun e w' => e = .returned (.int .i64 (chartsN s.signs s.places.toNat)) ∧ Below w.heap.size w w' := by
  obtain ⟨p, s, k, a, ra, rc, rs⟩ := s
  simp only at *
  obtain ⟨p, rfl⟩ := Int.eq_ofNat_of_zero_le (a := p) (by omega)
  go_enter Try.func72, Try.ntmps72
  go_wp2
  go_loop [3, 6] (fun n i => ∃ j : Nat, j ≤ p ∧ i = .int .i64 j ∧ n = .int .i64 (chartsN s j)) (fun _ i => p - (intOf i).toNat)
  case atStart => exact ⟨0, by omega, rfl, rfl⟩
  case round =>
    obtain ⟨j, hj, rfl, rfl⟩ := hrel
    have hb := chartsN_bd s hs j
    have hm1 : 0 ≤ chartsN s j * s := Int.mul_nonneg (by omega) (by omega)
    have hm2 : chartsN s j * s ≤ 4097 * 64 := Int.mul_le_mul hb.2 hs' (by omega) (by omega)
    by_cases hlt : j < p
    · go_wp2
      all_goals
        go_round
        case rel => exact ⟨j + 1, by omega, by go_num, by simp only [chartsN, Value.int.injEq, true_and]; split <;> omega⟩
        case measure => simp [intOf]; omega
    · go_wp2
      go_ret
      have : j = p := by omega
      subst this
      exact ⟨by simp, (Below.refl _ _).alloc (Nat.le_refl _) _⟩

def fitsB (signs x : Int) : Bool := decide (x / 2 ^ signs.toNat = 0)
theorem fits_any (s : Sch) (x : Int) (R : Value) (hs : 1 ≤ s.signs) (hs' : s.signs ≤ 64) (hx : 0 ≤ x) (hx' : x < 18446744073709551616) (w : World) :
    Calls Try.prog 84 #[scv s R, .int .u64 x] w fun e w' => e = .returned (.bool (fitsB s.signs x)) ∧ Below w.heap.size w w' := by
  obtain ⟨p, s, k, a, ra, rc, rs⟩ := s
  simp only [fitsB] at *
  by_cases h : s = 64
  · subst h
    have hz : x / 18446744073709551616 = 0 := Int.ediv_eq_zero_of_lt hx hx'
    go_enter Try.func84, Try.ntmps84
    go_wp2
    go_ret
    exact ⟨by simp [hz], (Below.refl _ _).alloc (Nat.le_refl _) _⟩
  · have hb : ((s : Int) == 64) = false := by simpa using h
    go_enter Try.func84, Try.ntmps84
    go_wp2
    go_ret
    exact ⟨ret_bool rfl, (Below.refl _ _).alloc (Nat.le_refl _) _⟩
def tstB (s : Sch) (t : Tst) : Bool :=
  inB t.place 0 (s.places - 1) && ((t.kind == 1 && t.other == 0 && fitsB s.signs t.set) || ((t.kind == 2 || t.kind == 3) && inB t.other 0 (s.places - 1) && t.other != t.place && t.set == 0))
theorem isTest_any (s : Sch) (t : Tst) (R : Value) (ht : t.ok) (hp : 1 ≤ s.places) (hp' : s.places ≤ 6) (hs : 1 ≤ s.signs) (hs' : s.signs ≤ 64) (w : World) :
    Calls Try.prog 91 #[scv s R, .agg #[.int .i64 t.kind, .int .i64 t.place, .int .i64 t.other, .int .u64 t.set]] w fun e w' => e = .returned (.bool (tstB s t)) ∧ Below w.heap.size w w' := by
  obtain ⟨p, s, k, a, ra, rc, rs⟩ := s
  obtain ⟨tk, tp, to, ts⟩ := t
  have hu := ht.2; clear ht
  simp only [tstB] at *
  have BAD : ((0 : Int) == 0) = true := rfl
  by_cases d1 : inB tp 0 (p - 1) = true
  · by_cases k1 : (tk == 1) = true
    · by_cases o1 : (to == 0) = true
      · (go_enter Try.func91, Try.ntmps91; go_wp2_with (first | (go_at_call 67; refine (within_any _ _ _ _).mono ?_; rintro e w' ⟨rfl, rfl⟩) | (go_at_call 84; refine (fits_any ⟨p, s, k, a, ra, rc, rs⟩ ts R hs hs' hu.1 hu.2 _).mono ?_; rintro e w' ⟨rfl, hb⟩)); go_ret)
        exact ⟨ret_bool (by simp only [beq_iff_eq] at k1; simp [d1, k1, o1]), by (repeat (first | exact Below.refl _ _ | assumption | (refine Below.alloc ?_ (by first | omega | (simp; omega) | (simp; done)) _) | (refine Below.setCell ?_ (by first | omega | (simp; omega) | (simp; done)) _) | (refine Below.drew ?_) | (refine belowN ?_ _) | (refine Below.trans ?_ (Below.mono ‹Below _ _ _› (by first | omega | (simp; omega) | (simp; done))))))⟩
      · simp only [Bool.not_eq_true] at o1
        (go_enter Try.func91, Try.ntmps91; go_wp2_with (first | (go_at_call 67; refine (within_any _ _ _ _).mono ?_; rintro e w' ⟨rfl, rfl⟩) | (go_at_call 84; refine (fits_any ⟨p, s, k, a, ra, rc, rs⟩ ts R hs hs' hu.1 hu.2 _).mono ?_; rintro e w' ⟨rfl, hb⟩)); go_ret)
        exact ⟨ret_bool (by simp only [beq_iff_eq] at k1; simp [k1, o1]), by (repeat (first | exact Below.refl _ _ | assumption | (refine Below.alloc ?_ (by first | omega | (simp; omega) | (simp; done)) _) | (refine Below.setCell ?_ (by first | omega | (simp; omega) | (simp; done)) _) | (refine Below.drew ?_) | (refine belowN ?_ _) | (refine Below.trans ?_ (Below.mono ‹Below _ _ _› (by first | omega | (simp; omega) | (simp; done))))))⟩
    · simp only [Bool.not_eq_true] at k1
      by_cases k2 : (tk == 2 || tk == 3) = true
      · by_cases d2 : inB to 0 (p - 1) = true
        · by_cases d3 : (to != tp) = true
          · rcases Bool.or_eq_true_iff.1 k2 with k3 | k3
            · (go_enter Try.func91, Try.ntmps91; go_wp2_with (first | (go_at_call 67; refine (within_any _ _ _ _).mono ?_; rintro e w' ⟨rfl, rfl⟩) | (go_at_call 84; refine (fits_any ⟨p, s, k, a, ra, rc, rs⟩ ts R hs hs' hu.1 hu.2 _).mono ?_; rintro e w' ⟨rfl, hb⟩)); go_ret)
              exact ⟨ret_bool (by simp [d1, k1, k3, d2, d3]), by (repeat (first | exact Below.refl _ _ | assumption | (refine Below.alloc ?_ (by first | omega | (simp; omega) | (simp; done)) _) | (refine Below.setCell ?_ (by first | omega | (simp; omega) | (simp; done)) _) | (refine Below.drew ?_) | (refine belowN ?_ _) | (refine Below.trans ?_ (Below.mono ‹Below _ _ _› (by first | omega | (simp; omega) | (simp; done))))))⟩
            · have k4 : (tk == 2) = false := by simp at *; omega
              (go_enter Try.func91, Try.ntmps91; go_wp2_with (first | (go_at_call 67; refine (within_any _ _ _ _).mono ?_; rintro e w' ⟨rfl, rfl⟩) | (go_at_call 84; refine (fits_any ⟨p, s, k, a, ra, rc, rs⟩ ts R hs hs' hu.1 hu.2 _).mono ?_; rintro e w' ⟨rfl, hb⟩)); go_ret)
              exact ⟨ret_bool (by simp [d1, k1, k3, k4, d2, d3]), by (repeat (first | exact Below.refl _ _ | assumption | (refine Below.alloc ?_ (by first | omega | (simp; omega) | (simp; done)) _) | (refine Below.setCell ?_ (by first | omega | (simp; omega) | (simp; done)) _) | (refine Below.drew ?_) | (refine belowN ?_ _) | (refine Below.trans ?_ (Below.mono ‹Below _ _ _› (by first | omega | (simp; omega) | (simp; done))))))⟩
          · simp only [Bool.not_eq_true] at d3
            rcases Bool.or_eq_true_iff.1 k2 with k3 | k3
            · (go_enter Try.func91, Try.ntmps91; go_wp2_with (first | (go_at_call 67; refine (within_any _ _ _ _).mono ?_; rintro e w' ⟨rfl, rfl⟩) | (go_at_call 84; refine (fits_any ⟨p, s, k, a, ra, rc, rs⟩ ts R hs hs' hu.1 hu.2 _).mono ?_; rintro e w' ⟨rfl, hb⟩)); go_ret)
              exact ⟨ret_bool (by simp [d3, k1]), by (repeat (first | exact Below.refl _ _ | assumption | (refine Below.alloc ?_ (by first | omega | (simp; omega) | (simp; done)) _) | (refine Below.setCell ?_ (by first | omega | (simp; omega) | (simp; done)) _) | (refine Below.drew ?_) | (refine belowN ?_ _) | (refine Below.trans ?_ (Below.mono ‹Below _ _ _› (by first | omega | (simp; omega) | (simp; done))))))⟩
            · have k4 : (tk == 2) = false := by simp at *; omega
              (go_enter Try.func91, Try.ntmps91; go_wp2_with (first | (go_at_call 67; refine (within_any _ _ _ _).mono ?_; rintro e w' ⟨rfl, rfl⟩) | (go_at_call 84; refine (fits_any ⟨p, s, k, a, ra, rc, rs⟩ ts R hs hs' hu.1 hu.2 _).mono ?_; rintro e w' ⟨rfl, hb⟩)); go_ret)
              exact ⟨ret_bool (by simp [d3, k1]), by (repeat (first | exact Below.refl _ _ | assumption | (refine Below.alloc ?_ (by first | omega | (simp; omega) | (simp; done)) _) | (refine Below.setCell ?_ (by first | omega | (simp; omega) | (simp; done)) _) | (refine Below.drew ?_) | (refine belowN ?_ _) | (refine Below.trans ?_ (Below.mono ‹Below _ _ _› (by first | omega | (simp; omega) | (simp; done))))))⟩
        · simp only [Bool.not_eq_true] at d2
          rcases Bool.or_eq_true_iff.1 k2 with k3 | k3
          · (go_enter Try.func91, Try.ntmps91; go_wp2_with (first | (go_at_call 67; refine (within_any _ _ _ _).mono ?_; rintro e w' ⟨rfl, rfl⟩) | (go_at_call 84; refine (fits_any ⟨p, s, k, a, ra, rc, rs⟩ ts R hs hs' hu.1 hu.2 _).mono ?_; rintro e w' ⟨rfl, hb⟩)); go_ret)
            exact ⟨ret_bool (by simp [d2, k1]), by (repeat (first | exact Below.refl _ _ | assumption | (refine Below.alloc ?_ (by first | omega | (simp; omega) | (simp; done)) _) | (refine Below.setCell ?_ (by first | omega | (simp; omega) | (simp; done)) _) | (refine Below.drew ?_) | (refine belowN ?_ _) | (refine Below.trans ?_ (Below.mono ‹Below _ _ _› (by first | omega | (simp; omega) | (simp; done))))))⟩
          · have k4 : (tk == 2) = false := by simp at *; omega
            (go_enter Try.func91, Try.ntmps91; go_wp2_with (first | (go_at_call 67; refine (within_any _ _ _ _).mono ?_; rintro e w' ⟨rfl, rfl⟩) | (go_at_call 84; refine (fits_any ⟨p, s, k, a, ra, rc, rs⟩ ts R hs hs' hu.1 hu.2 _).mono ?_; rintro e w' ⟨rfl, hb⟩)); go_ret)
            exact ⟨ret_bool (by simp [d2, k1]), by (repeat (first | exact Below.refl _ _ | assumption | (refine Below.alloc ?_ (by first | omega | (simp; omega) | (simp; done)) _) | (refine Below.setCell ?_ (by first | omega | (simp; omega) | (simp; done)) _) | (refine Below.drew ?_) | (refine belowN ?_ _) | (refine Below.trans ?_ (Below.mono ‹Below _ _ _› (by first | omega | (simp; omega) | (simp; done))))))⟩
      · simp only [Bool.not_eq_true] at k2
        obtain ⟨k3, k4⟩ := Bool.or_eq_false_iff.1 k2
        (go_enter Try.func91, Try.ntmps91; go_wp2_with (first | (go_at_call 67; refine (within_any _ _ _ _).mono ?_; rintro e w' ⟨rfl, rfl⟩) | (go_at_call 84; refine (fits_any ⟨p, s, k, a, ra, rc, rs⟩ ts R hs hs' hu.1 hu.2 _).mono ?_; rintro e w' ⟨rfl, hb⟩)); go_ret)
        exact ⟨ret_bool (by simp [k1, k2]), by (repeat (first | exact Below.refl _ _ | assumption | (refine Below.alloc ?_ (by first | omega | (simp; omega) | (simp; done)) _) | (refine Below.setCell ?_ (by first | omega | (simp; omega) | (simp; done)) _) | (refine Below.drew ?_) | (refine belowN ?_ _) | (refine Below.trans ?_ (Below.mono ‹Below _ _ _› (by first | omega | (simp; omega) | (simp; done))))))⟩
  · simp only [Bool.not_eq_true] at d1
    (go_enter Try.func91, Try.ntmps91; go_wp2_with (first | (go_at_call 67; refine (within_any _ _ _ _).mono ?_; rintro e w' ⟨rfl, rfl⟩) | (go_at_call 84; refine (fits_any ⟨p, s, k, a, ra, rc, rs⟩ ts R hs hs' hu.1 hu.2 _).mono ?_; rintro e w' ⟨rfl, hb⟩)); go_ret)
    exact ⟨ret_bool (by simp [d1]), by (repeat (first | exact Below.refl _ _ | assumption | (refine Below.alloc ?_ (by first | omega | (simp; omega) | (simp; done)) _) | (refine Below.setCell ?_ (by first | omega | (simp; omega) | (simp; done)) _) | (refine Below.drew ?_) | (refine belowN ?_ _) | (refine Below.trans ?_ (Below.mono ‹Below _ _ _› (by first | omega | (simp; omega) | (simp; done))))))⟩
end Go.Proofs.Ytidlmbajpbbilaa

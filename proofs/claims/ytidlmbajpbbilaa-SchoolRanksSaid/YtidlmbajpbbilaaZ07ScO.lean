/- School: Chart, Number, Read. -/
import Derived.Test.YtidlmbajpbbilaaScN
import Derived.Test.YtidlmbajpbbilaaZ05Iter
namespace Go.Proofs.Ytidlmbajpbbilaa
open Go.RowKit

/-- a list and an error are returned -/
def RetSlE (l : List Int) (er : Int) (w : World) (e : Ending) (w' : World) : Prop :=
  ∃ A c, e = .returned (.tuple #[.slice A l.length c, .int .i64 er]) ∧ Sl intCell 1 w' w'.heap.size A l ∧ Below w.heap.size w w'
theorem retSlE_nil {er : Int} {w w' : World} (h : Below w.heap.size w w') : RetSlE [] er w (.returned (.tuple #[.slice none 0 0, .int .i64 er])) w' :=
  ⟨none, 0, rfl, Reads.none_, h⟩
def chartR (s : Sch) (n : Int) : List Int × Int := if schB s then (if inB n 0 (chartsN s.signs s.places.toNat - 1) then (chartL s n, 0) else ([], 3)) else ([], 2)

set_option maxRecDepth 100000 in
set_option maxHeartbeats 1000000 in
theorem chartF_any (s : Sch) (n : Int) (w : World) (hr : s.reads w w.heap.size) : Calls Try.prog 32 #[scv s s.rv, .int .i64 n] w (RetSlE (chartR s n).1 (chartR s n).2 w) := by
  by_cases vs : schB s = true
  · have V := valid_of hr.oks vs
    have HC := fun W (hW : Below w.heap.size w W) => Lib.hid (chk_any vs W ((hr.below hW).more hW.size))
    have HN := fun W => Lib.hid (charts_any s s.rv V.places.1 V.places.2 V.signs.1 V.signs.2 W)
    have hcb := chartsN_bd s.signs V.signs.1 s.places.toNat
    by_cases hn : inB n 0 (chartsN s.signs s.places.toNat - 1) = true
    · have hn2 := inB_iff.1 hn
      have hc := V.charts
      have HCH := fun W => Lib.hid (chart_any s s.rv n V.small hn2.1 (by omega) W)
      have HR : Hid (chartR s n = (chartL s n, 0)) := (by simp [chartR, vs, hn] : chartR s n = (chartL s n, 0))
      go_enter Try.func32, Try.ntmps32
      go_wp2_with fail
      refine ((HC _ (by (repeat (first | exact Below.refl _ _ | assumption | (refine Below.alloc ?_ (by first | omega | (simp; omega) | (simp; done)) _) | (refine Below.setCell ?_ (by first | omega | (simp; omega) | (simp; done)) _) | (refine Below.drew ?_) | (refine belowN ?_ _) | (refine Below.trans ?_ (Below.mono ‹Below _ _ _› (by first | omega | (simp; omega) | (simp; done)))))))).out).mono ?_
      rintro e w1 ⟨rfl, hb1⟩
      (have hc1 := fun b o (h : b < w.heap.size + 1) => (bcell hb1).1 b o (by simp; omega); have hz1 : w.heap.size + 1 ≤ w1.heap.size := (by have := hb1.size; simp at this; omega))
      go_wp2_with fail
      refine ((HN _).out).mono ?_
      rintro e w2 ⟨rfl, hb2⟩
      (have hc2 := fun b o (h : b < w.heap.size + 1) => ((bcell hb2).1 b o (by omega)).trans (hc1 b o h); have hz2 : w.heap.size + 1 ≤ w2.heap.size := (by have := hb2.size; omega))
      go_wp2_with (go_at_call 67; refine (within_any _ _ _ _).mono ?_; rintro e w' ⟨rfl, rfl⟩)
      refine ((HCH _).out).mono ?_
      rintro e w3 ⟨v, rfl, hown, hb3⟩
      obtain ⟨A, c, rfl, hsl⟩ := Sl.of_own hown
      have HS := Lib.hid hsl
      have hz3 := hb3.size
      clear hown hsl
      go_wp2
      go_ret2
      rw [HR.out]
      exact ⟨A, c, rfl, HS.out, by (repeat (first | exact Below.refl _ _ | assumption | (refine Below.alloc ?_ (by first | omega | (simp; omega) | (simp; done)) _) | (refine Below.setCell ?_ (by first | omega | (simp; omega) | (simp; done)) _) | (refine Below.drew ?_) | (refine belowN ?_ _) | (refine Below.trans ?_ (Below.mono ‹Below _ _ _› (by first | omega | (simp; omega) | (simp; done))))))⟩
    · simp only [Bool.not_eq_true] at hn
      have HR : Hid (chartR s n = ([], 3)) := (by simp [chartR, vs, hn] : chartR s n = ([], 3))
      go_enter Try.func32, Try.ntmps32
      go_wp2_with fail
      refine ((HC _ (by (repeat (first | exact Below.refl _ _ | assumption | (refine Below.alloc ?_ (by first | omega | (simp; omega) | (simp; done)) _) | (refine Below.setCell ?_ (by first | omega | (simp; omega) | (simp; done)) _) | (refine Below.drew ?_) | (refine belowN ?_ _) | (refine Below.trans ?_ (Below.mono ‹Below _ _ _› (by first | omega | (simp; omega) | (simp; done)))))))).out).mono ?_
      rintro e w1 ⟨rfl, hb1⟩
      (have hc1 := fun b o (h : b < w.heap.size + 1) => (bcell hb1).1 b o (by simp; omega); have hz1 : w.heap.size + 1 ≤ w1.heap.size := (by have := hb1.size; simp at this; omega))
      go_wp2_with fail
      refine ((HN _).out).mono ?_
      rintro e w2 ⟨rfl, hb2⟩
      (have hc2 := fun b o (h : b < w.heap.size + 1) => ((bcell hb2).1 b o (by omega)).trans (hc1 b o h); have hz2 : w.heap.size + 1 ≤ w2.heap.size := (by have := hb2.size; omega))
      go_wp2_with (go_at_call 67; refine (within_any _ _ _ _).mono ?_; rintro e w' ⟨rfl, rfl⟩)
      go_ret2
      rw [HR.out]
      exact retSlE_nil (by (repeat (first | exact Below.refl _ _ | assumption | (refine Below.alloc ?_ (by first | omega | (simp; omega) | (simp; done)) _) | (refine Below.setCell ?_ (by first | omega | (simp; omega) | (simp; done)) _) | (refine Below.drew ?_) | (refine belowN ?_ _) | (refine Below.trans ?_ (Below.mono ‹Below _ _ _› (by first | omega | (simp; omega) | (simp; done)))))))
  · simp only [Bool.not_eq_true] at vs
    have HC := fun W (hW : Below w.heap.size w W) => Lib.hid (chk_any vs W ((hr.below hW).more hW.size))
    have HR : Hid (chartR s n = ([], 2)) := (by simp [chartR, vs] : chartR s n = ([], 2))
    go_enter Try.func32, Try.ntmps32
    go_wp2_with fail
    refine ((HC _ (by (repeat (first | exact Below.refl _ _ | assumption | (refine Below.alloc ?_ (by first | omega | (simp; omega) | (simp; done)) _) | (refine Below.setCell ?_ (by first | omega | (simp; omega) | (simp; done)) _) | (refine Below.drew ?_) | (refine belowN ?_ _) | (refine Below.trans ?_ (Below.mono ‹Below _ _ _› (by first | omega | (simp; omega) | (simp; done)))))))).out).mono ?_
    rintro e w1 ⟨rfl, hb1⟩
    (have hc1 := fun b o (h : b < w.heap.size + 1) => (bcell hb1).1 b o (by simp; omega); have hz1 : w.heap.size + 1 ≤ w1.heap.size := (by have := hb1.size; simp at this; omega))
    go_wp2
    go_ret2
    rw [HR.out]
    exact retSlE_nil (by (repeat (first | exact Below.refl _ _ | assumption | (refine Below.alloc ?_ (by first | omega | (simp; omega) | (simp; done)) _) | (refine Below.setCell ?_ (by first | omega | (simp; omega) | (simp; done)) _) | (refine Below.drew ?_) | (refine belowN ?_ _) | (refine Below.trans ?_ (Below.mono ‹Below _ _ _› (by first | omega | (simp; omega) | (simp; done)))))))

/-- the number of a list of figures -/
def numN (sg : Int) (l : List Int) : Int := l.foldl (fun n f => n * sg + f) 0
theorem numN_succ (sg : Int) (l : List Int) {j : Nat} (h : j < l.length) : numN sg (l.take (j + 1)) = numN sg (l.take j) * sg + l[j] := by
  simp only [numN]; rw [List.take_succ_eq_append_getElem h, List.foldl_append]; rfl
def numberR (s : Sch) (l : List Int) : Int × Int := if schB s then (if chartB s l then (numN s.signs l, 0) else (0, 4)) else (0, 2)

set_option maxRecDepth 100000 in
set_option maxHeartbeats 1000000 in
theorem number_any (s : Sch) (l : List Int) (A : Option Addr) (c : Nat) (w : World) (hr : s.reads w w.heap.size) (hl : l.length ≤ 1000000) (hA : Sl intCell 1 w w.heap.size A l) :
    Calls Try.prog 39 #[scv s s.rv, .slice A l.length c] w (Ret2 (numberR s l) w) := by
  by_cases vs : schB s = true
  · have V := valid_of hr.oks vs
    have HC := fun W (hW : Below w.heap.size w W) => Lib.hid (chk_any vs W ((hr.below hW).more hW.size))
    have HI := fun W (hW : Below w.heap.size w W) => Lib.hid (isChart_any s s.rv A c l W V.small hl ((hA.below hW).more hW.size))
    by_cases hc : chartB s l = true
    · have HR : Hid (numberR s l = (numN s.signs l, 0)) := (by simp [numberR, vs, hc] : numberR s l = (numN s.signs l, 0))
      rw [hc] at HI
      have hlen : l.length ≤ 6 := by have := V.places; simp [chartB] at hc; omega
      have hfs : ∀ j, (h : j < l.length) → 0 ≤ l[j] ∧ l[j] < s.signs := fun j h => by
        simp [chartB, inB] at hc
        have := hc.2 _ (List.getElem_mem h); omega
      have hsg := V.signs
      have HA := Lib.hid hA
      have HFS := Lib.hid hfs
      clear hc hA hfs V vs
      go_enter Try.func39, Try.ntmps39
      go_wp2_with fail
      refine ((HC _ (by (repeat (first | exact Below.refl _ _ | assumption | (refine Below.alloc ?_ (by first | omega | (simp; omega) | (simp; done)) _) | (refine Below.setCell ?_ (by first | omega | (simp; omega) | (simp; done)) _) | (refine Below.drew ?_) | (refine belowN ?_ _) | (refine Below.trans ?_ (Below.mono ‹Below _ _ _› (by first | omega | (simp; omega) | (simp; done)))))))).out).mono ?_
      rintro e w1 ⟨rfl, hb1⟩
      (have hc1 := fun b o (h : b < w.heap.size + 1) => (bcell hb1).1 b o (by simp; omega); have hz1 : w.heap.size + 1 ≤ w1.heap.size := (by have := hb1.size; simp at this; omega))
      go_wp2_with fail
      refine ((HI _ (by (repeat (first | exact Below.refl _ _ | assumption | (refine Below.alloc ?_ (by first | omega | (simp; omega) | (simp; done)) _) | (refine Below.setCell ?_ (by first | omega | (simp; omega) | (simp; done)) _) | (refine Below.drew ?_) | (refine belowN ?_ _) | (refine Below.trans ?_ (Below.mono ‹Below _ _ _› (by first | omega | (simp; omega) | (simp; done)))))))).out).mono ?_
      rintro e w2 ⟨rfl, hb2⟩
      (have hc2 := fun b o (h : b < w.heap.size + 1) => ((bcell hb2).1 b o (by omega)).trans (hc1 b o h); have hz2 : w.heap.size + 1 ≤ w2.heap.size := (by have := hb2.size; omega))
      go_wp2
      go_loopw [6, 20] (fun v i wr => ∃ j : Nat, j ≤ l.length ∧ i = .int .i64 j ∧ v = .int .i64 (numN s.signs (l.take j)) ∧ 0 ≤ numN s.signs (l.take j) ∧ numN s.signs (l.take j) < 64 ^ j ∧ wr = w2) (fun _ i _ => l.length - (intOf i).toNat)
      case atStart => exact ⟨0, by omega, rfl, rfl, by simp [numN], by simp [numN], rfl⟩
      case round =>
        obtain ⟨j, hj, rfl, rfl, hn0, hn1, rfl⟩ := hrel
        obtain ⟨x, hx⟩ : ∃ x, x = numN s.signs (l.take j) := ⟨_, rfl⟩
        rw [← hx] at hn0 hn1 ⊢
        by_cases hlt : j < l.length
        · have hpow : (64 : Int) ^ j ≤ 64 ^ 5 := by
            have h := Nat.pow_le_pow_right (n := 64) (by omega) (show j ≤ 5 by omega)
            exact_mod_cast h
          obtain ⟨hf0, hf1⟩ := HFS.out j hlt
          obtain ⟨ab, ao, rfl, hblk, hcell⟩ := HA.out.at_ (k := j) (fun _ => rfl) hlt
          have c0 : w.cell? ⟨ab, ao + j, none⟩ = some (.int .i64 l[j]) := by have := hcell 0 _ rfl; simpa using this
          have hm0 : 0 ≤ x * s.signs := Int.mul_nonneg hn0 (by omega)
          have hm1 : x * s.signs ≤ x * 64 := Int.mul_le_mul_of_nonneg_left (by omega) hn0
          have hs2 : Hid (numN s.signs (l.take (j + 1)) = x * s.signs + l[j]) := by show _ = _; rw [numN_succ _ _ hlt, hx]
          have hp6 : (64 : Int) ^ (j + 1) = 64 ^ j * 64 := Int.pow_succ 64 j
          have hbd : Hid (x * s.signs + l[j] < 64 ^ (j + 1)) := Lib.hid (by omega)
          have hs64 : (1 : Int) ≤ s.signs ∧ s.signs ≤ 64 := hsg
          obtain ⟨f, hf⟩ : ∃ f, f = l[j] := ⟨_, rfl⟩
          rw [← hf] at c0 hf0 hf1 hs2 hbd
          have HX := Lib.hid hx
          simp only [Int.reducePow] at hpow
          have hx5 : x < 1073741824 := by omega
          have hm2 : x * s.signs ≤ 68719476736 := by omega
          clear hp6 hcell hx hf hpow hn1 hm1
          go_wp2
          go_roundw
          case rel => exact ⟨j + 1, by omega, by go_num, by rw [hs2.out], by rw [hs2.out]; omega, by rw [hs2.out]; exact hbd.out, by first | rfl | trivial⟩
          case measure => simp [intOf]; omega
        · obtain rfl : j = l.length := by omega
          rw [List.take_length] at hx
          subst hx
          go_wp2
          go_ret2
          rw [HR.out]
          exact ⟨rfl, by (repeat (first | exact Below.refl _ _ | assumption | (refine Below.alloc ?_ (by first | omega | (simp; omega) | (simp; done)) _) | (refine Below.setCell ?_ (by first | omega | (simp; omega) | (simp; done)) _) | (refine Below.drew ?_) | (refine belowN ?_ _) | (refine Below.trans ?_ (Below.mono ‹Below _ _ _› (by first | omega | (simp; omega) | (simp; done))))))⟩
    · simp only [Bool.not_eq_true] at hc
      have HR : Hid (numberR s l = (0, 4)) := (by simp [numberR, vs, hc] : numberR s l = (0, 4))
      rw [hc] at HI
      go_enter Try.func39, Try.ntmps39
      go_wp2_with fail
      refine ((HC _ (by (repeat (first | exact Below.refl _ _ | assumption | (refine Below.alloc ?_ (by first | omega | (simp; omega) | (simp; done)) _) | (refine Below.setCell ?_ (by first | omega | (simp; omega) | (simp; done)) _) | (refine Below.drew ?_) | (refine belowN ?_ _) | (refine Below.trans ?_ (Below.mono ‹Below _ _ _› (by first | omega | (simp; omega) | (simp; done)))))))).out).mono ?_
      rintro e w1 ⟨rfl, hb1⟩
      (have hc1 := fun b o (h : b < w.heap.size + 1) => (bcell hb1).1 b o (by simp; omega); have hz1 : w.heap.size + 1 ≤ w1.heap.size := (by have := hb1.size; simp at this; omega))
      go_wp2_with fail
      refine ((HI _ (by (repeat (first | exact Below.refl _ _ | assumption | (refine Below.alloc ?_ (by first | omega | (simp; omega) | (simp; done)) _) | (refine Below.setCell ?_ (by first | omega | (simp; omega) | (simp; done)) _) | (refine Below.drew ?_) | (refine belowN ?_ _) | (refine Below.trans ?_ (Below.mono ‹Below _ _ _› (by first | omega | (simp; omega) | (simp; done)))))))).out).mono ?_
      rintro e w2 ⟨rfl, hb2⟩
      go_wp2
      go_ret2
      rw [HR.out]
      exact ⟨rfl, by (repeat (first | exact Below.refl _ _ | assumption | (refine Below.alloc ?_ (by first | omega | (simp; omega) | (simp; done)) _) | (refine Below.setCell ?_ (by first | omega | (simp; omega) | (simp; done)) _) | (refine Below.drew ?_) | (refine belowN ?_ _) | (refine Below.trans ?_ (Below.mono ‹Below _ _ _› (by first | omega | (simp; omega) | (simp; done))))))⟩
  · simp only [Bool.not_eq_true] at vs
    have HC := fun W (hW : Below w.heap.size w W) => Lib.hid (chk_any vs W ((hr.below hW).more hW.size))
    have HR : Hid (numberR s l = (0, 2)) := (by simp [numberR, vs] : numberR s l = (0, 2))
    go_enter Try.func39, Try.ntmps39
    go_wp2_with fail
    refine ((HC _ (by (repeat (first | exact Below.refl _ _ | assumption | (refine Below.alloc ?_ (by first | omega | (simp; omega) | (simp; done)) _) | (refine Below.setCell ?_ (by first | omega | (simp; omega) | (simp; done)) _) | (refine Below.drew ?_) | (refine belowN ?_ _) | (refine Below.trans ?_ (Below.mono ‹Below _ _ _› (by first | omega | (simp; omega) | (simp; done)))))))).out).mono ?_
    rintro e w1 ⟨rfl, hb1⟩
    (have hc1 := fun b o (h : b < w.heap.size + 1) => (bcell hb1).1 b o (by simp; omega); have hz1 : w.heap.size + 1 ≤ w1.heap.size := (by have := hb1.size; simp at this; omega))
    go_wp2
    go_ret2
    rw [HR.out]
    exact ⟨rfl, by (repeat (first | exact Below.refl _ _ | assumption | (refine Below.alloc ?_ (by first | omega | (simp; omega) | (simp; done)) _) | (refine Below.setCell ?_ (by first | omega | (simp; omega) | (simp; done)) _) | (refine Below.drew ?_) | (refine belowN ?_ _) | (refine Below.trans ?_ (Below.mono ‹Below _ _ _› (by first | omega | (simp; omega) | (simp; done))))))⟩
end Go.Proofs.Ytidlmbajpbbilaa
namespace Go.Proofs.Ytidlmbajpbbilaa
open Go.RowKit

/-- a new slice, whose block is from base on -/
def NewSl {α : Type} (f : α → List Value) (size base : Nat) (w : World) (A : Option Addr) (l : List α) : Prop :=
  ∀ W' : World, (∀ p : Addr, base ≤ p.block → p.block < w.heap.size → W'.cell? p = w.cell? p) → w.heap.size ≤ W'.heap.size → Sl f size W' W'.heap.size A l
theorem NewSl.of_own {α : Type} {f : α → List Value} {size : Nat} {w : World} {base : Nat} {e : TypeId} {v : Value} {l : List α} (h : w.ownsRow base e size v l.length (flat f l)) :
    ∃ A c, v = .slice A l.length c ∧ NewSl f size base w A l := by
  rcases h.2 with ⟨rfl, h0⟩ | ⟨g, cap, cur, rfl, hb, hg, hn, hc, hs, ht⟩
  · exact ⟨none, 0, by rw [h0], fun W' _ _ => ⟨h.1, fun hn => by omega⟩⟩
  · refine ⟨_, _, rfl, fun W' hk hz => ⟨h.1, fun hn => ⟨g, 0, rfl, ?_, fun j u hu => ?_⟩⟩⟩
    · have := (Array.getElem?_eq_some_iff.1 hg).1; omega
    · have hlt := (Array.getElem?_eq_some_iff.1 hg).1
      have := h.cells (g := g) rfl j u hu
      rw [Go.WideShapes.add_plain] at this
      exact (hk _ hb hlt).trans this
theorem NewSl.sl {α : Type} {f : α → List Value} {size base : Nat} {w : World} {A : Option Addr} {l : List α} (h : NewSl f size base w A l) : Sl f size w w.heap.size A l := h w (fun _ _ _ => rfl) (Nat.le_refl _)

/-- a reading and an error are returned -/
def RetRead (x : Int × List Int × List Int × Int) (w : World) (e : Ending) (w' : World) : Prop :=
  ∃ A c A2 c2, e = .returned (.tuple #[.agg #[.int .i64 x.1, .slice A x.2.1.length c, .slice A2 x.2.2.1.length c2], .int .i64 x.2.2.2]) ∧ Sl intCell 1 w' w'.heap.size A x.2.1 ∧ Sl intCell 1 w' w'.heap.size A2 x.2.2.1 ∧ Below w.heap.size w w'
def readR (s : Sch) (ch : List Int) (kind : Int) : Int × List Int × List Int × Int :=
  if schB s then (if chartB s ch then (if inB kind 0 (s.kinds - 1) then
    (kindOf ((List.range 20).filter (ansOf s 0 kind ch)), bitsOf (ansN s 0 kind ch), bitsOf (mainN s 0 kind ch), 0) else (0, [], [], 7)) else (0, [], [], 4)) else (0, [], [], 2)
theorem retRead_nil {er : Int} {w w' : World} (h : Below w.heap.size w w') : RetRead (0, [], [], er) w (.returned (.tuple #[.agg #[.int .i64 0, .slice none 0 0, .slice none 0 0], .int .i64 er])) w' :=
  ⟨none, 0, none, 0, rfl, Reads.none_, Reads.none_, h⟩

set_option maxRecDepth 100000 in
set_option maxHeartbeats 2000000 in
theorem read_any (s : Sch) (ch : List Int) (kind : Int) (A : Option Addr) (c : Nat) (w : World) (hr : s.reads w w.heap.size) (hl : ch.length ≤ 1000000) (hA : Sl intCell 1 w w.heap.size A ch) :
    Calls Try.prog 33 #[scv s s.rv, .slice A ch.length c, .int .i64 kind] w (RetRead (readR s ch kind) w) := by
  by_cases vs : schB s = true
  · have V := valid_of hr.oks vs
    have HC := fun W (hW : Below w.heap.size w W) => Lib.hid (chk_any vs W ((hr.below hW).more hW.size))
    have HI := fun W (hW : Below w.heap.size w W) => Lib.hid (isChart_any s s.rv A c ch W V.small hl ((hA.below hW).more hW.size))
    have HK := fun W => Lib.hid (isKind_any s s.rv kind W V.kinds.1 V.kinds.2)
    by_cases hc : chartB s ch = true
    · rw [hc] at HI
      by_cases hk : inB kind 0 (s.kinds - 1) = true
      · rw [hk] at HK
        have kin := inB_iff.1 hk
        have HR : Hid (readR s ch kind = (kindOf ((List.range 20).filter (ansOf s 0 kind ch)), bitsOf (ansN s 0 kind ch), bitsOf (mainN s 0 kind ch), 0)) := (by simp [readR, vs, hc, hk] : readR s ch kind = _)
        have hlen : ch.length = s.places.toNat := by simp [chartB] at hc; omega
        have hfs : ∀ x ∈ ch, 0 ≤ x ∧ x ≤ 63 := fun x h => by
          simp [chartB, inB] at hc
          have := hc.2 _ h; have := V.signs; omega
        have HQ := fun W (hW : Below w.heap.size w W) => Lib.hid (asks0 (c := c) V ((hr.below hW).more hW.size) kin.1 (by omega) rfl hlen hfs ((hA.below hW).more hW.size))
        have HKD := fun W => Lib.hid (show Calls Try.prog 58 #[.int .u32 ((ansN s 0 kind ch : Nat) : Int)] W _ from kind_any (ansOf s 0 kind ch) W)
        have HLA := fun W => Lib.hid (listA_any (ansN s 0 kind ch) (Nat.lt_of_lt_of_le (bset_lt _ _) (by decide)) W)
        have HLR := fun W => Lib.hid (listR_any (mainN s 0 kind ch) (Nat.lt_of_lt_of_le (bset_lt _ _) (Nat.le_trans (Nat.pow_le_pow_right (by omega) (show s.rules.length ≤ 31 by have := V.len; omega)) (by decide))) W)
        obtain ⟨kd, hkd⟩ : ∃ k, k = kindOf ((List.range 20).filter (ansOf s 0 kind ch)) := ⟨_, rfl⟩
        rw [← hkd] at HKD HR
        clear hc hk vs hlen hfs hkd
        go_enter Try.func33, Try.ntmps33
        go_wp2_with fail
        refine ((HC _ (by (repeat (first | exact Below.refl _ _ | assumption | (refine Below.alloc ?_ (by first | omega | (simp; omega) | (simp; done)) _) | (refine Below.setCell ?_ (by first | omega | (simp; omega) | (simp; done)) _) | (refine Below.drew ?_) | (refine belowN ?_ _) | (refine Below.trans ?_ (Below.mono ‹Below _ _ _› (by first | omega | (simp; omega) | (simp; done)))))))).out).mono ?_
        rintro e w1 ⟨rfl, hb1⟩
        have hc1 := fun b o (h : b < w.heap.size + 2) => (bcell hb1).1 b o (by simp; omega)
        have hf1 := fun b o (h : b < w.heap.size + 2) => (bcell hb1).2 b o (by simp; omega)
        have hk1 := fun b (h : b < w.heap.size + 2) => hb1.block b (by simp; omega)
        have hz1 : w.heap.size + 2 ≤ w1.heap.size := (by have := hb1.size; simp at this; omega)
        go_wp2_with fail
        refine ((HI _ (by (repeat (first | exact Below.refl _ _ | assumption | (refine Below.alloc ?_ (by first | omega | (simp; omega) | (simp; done)) _) | (refine Below.setCell ?_ (by first | omega | (simp; omega) | (simp; done)) _) | (refine Below.drew ?_) | (refine belowN ?_ _) | (refine Below.trans ?_ (Below.mono ‹Below _ _ _› (by first | omega | (simp; omega) | (simp; done)))))))).out).mono ?_
        rintro e w2 ⟨rfl, hb2⟩
        have hc2 := fun b o (h : b < w.heap.size + 2) => ((bcell hb2).1 b o (by omega)).trans (hc1 b o h)
        have hf2 := fun b o (h : b < w.heap.size + 2) => ((bcell hb2).2 b o (by omega)).trans (hf1 b o h)
        have hk2 := fun b (h : b < w.heap.size + 2) => (hb2.block b (by omega)).trans (hk1 b h)
        have hz2 : w.heap.size + 2 ≤ w2.heap.size := (by have := hb2.size; omega)
        go_wp2_with fail
        refine ((HK _).out).mono ?_
        rintro e w3 ⟨rfl, hb3⟩
        have hc3 := fun b o (h : b < w.heap.size + 2) => ((bcell hb3).1 b o (by omega)).trans (hc2 b o h)
        have hf3 := fun b o (h : b < w.heap.size + 2) => ((bcell hb3).2 b o (by omega)).trans (hf2 b o h)
        have hk3 := fun b (h : b < w.heap.size + 2) => (hb3.block b (by omega)).trans (hk2 b h)
        have hz3 : w.heap.size + 2 ≤ w3.heap.size := (by have := hb3.size; omega)
        go_wp2
        refine wp_world (fun W => Below w.heap.size w W ∧ W.heap.size = w3.heap.size + 1 ∧ Blk W (w.heap.size + 1) #[.int .i64 0, .slice none 0 0, .slice none 0 0] 73 ∧ Blk W w3.heap.size #[.int .i64 s.places, .int .i64 s.signs, .int .i64 s.kinds, .int .i64 s.answers, s.rv, .int .u32 0] 108) ?_ ?_
        · exact ⟨by (repeat (first | exact Below.refl _ _ | assumption | (refine Below.alloc ?_ (by first | omega | (simp; omega) | (simp; done)) _) | (refine Below.setCell ?_ (by first | omega | (simp; omega) | (simp; done)) _) | (refine Below.drew ?_) | (refine belowN ?_ _) | (refine Below.trans ?_ (Below.mono ‹Below _ _ _› (by first | omega | (simp; omega) | (simp; done)))))), by simp, Blk.alloc (W := w3) ((hk3 (w.heap.size + 1) (by omega)).trans (Blk.at_ (by simp))) _, Blk.at_ rfl⟩
        rintro Wl ⟨hbl, hsz, gX, gR⟩
        have HL := Lib.hid hbl
        have HQ0 := HQ Wl hbl
        have cR := gR.cell
        have cX := gX.cell
        have GX := Lib.hid gX
        have hzl : w.heap.size + 2 ≤ w3.heap.size := hz3
        clear gX gR hc1 hc2 hc3 hf1 hf2 hf3 hb1 hb2 hb3 HC HI HK hz1 hz2 hz3 cX hbl
        have R0 := cR 0; have R1 := cR 1; have R2 := cR 2; have R3 := cR 3; have R4 := cR 4; have R5 := cR 5
        simp at R0 R1 R2 R3 R4 R5
        clear cR
        (refine wp_region_ext (by kernel_rfl) (by kernel_rfl) ?_; (repeat (go_big_quiet_step((first | (go_at_call 57; with_reducible exact Calls.ext_of (HQ0.out.apply _ (Grow.h _))) | (go_at_call 56; with_reducible exact Calls.ext_of (HQ0.out.speak _ (Grow.h _))))))); with_reducible refine wpQuiet_nil ?_; intro w1 hw1; have hb1 := ext_below hw1; clear hw1)
        have HB1 := Lib.hid hb1
        have hd1 := fun b o (h : b < w3.heap.size + 1) => (bcell hb1).1 b o (by omega)
        go_wp2_with fail
        refine (HQ0.out.say _ (by exact HB1.out)).mono ?_
        rintro e w2 ⟨rfl, hb2⟩
        go_wp2_with fail
        refine ((HKD _).out).mono ?_
        rintro e w3' ⟨rfl, hb3⟩
        go_wp2_with fail
        refine ((HLA _).out).mono ?_
        rintro e w4 ⟨v, rfl, hown, hb4⟩
        obtain ⟨A4, c4, rfl, hsl⟩ := NewSl.of_own hown
        have HA4 := Lib.hid hsl
        clear hown hsl
        go_wp2_with fail
        refine ((HLR _).out).mono ?_
        rintro e w5 ⟨v, rfl, hown, hb5⟩
        obtain ⟨A5, c5, rfl, hsl⟩ := NewSl.of_own hown
        have HA5 := Lib.hid hsl
        clear hown hsl
        have z1 := hb1.size; have z2 := hb2.size; have z3 := hb3.size; have z4 := hb4.size; have z5 := hb5.size
        have hbel5 : Below Wl.heap.size Wl w5 := (((hb1.trans (hb2.mono z1)).trans (hb3.mono (by omega))).trans (hb4.mono (by omega))).trans (hb5.mono (by omega))
        have gX5 := GX.out.below hbel5 (by omega)
        have cX := gX5.cell
        have fX := gX5.free
        have X0 := cX 0; have X1 := cX 1; have X2 := cX 2
        have F0 := fX 0; have F1 := fX 1; have F2 := fX 2
        simp at X0 X1 X2
        have HB5 := Lib.hid hbel5
        have HB45 := Lib.hid hb5
        clear cX fX gX5 hbel5 hb1 hb2 hb3 hb4 hb5
        go_wp2
        refine bodyPost_ret (v := .tuple #[.agg #[.int .i64 kd, .slice A4 (bitsOf (ansN s 0 kind ch)).length c4, .slice A5 (bitsOf (mainN s 0 kind ch)).length c5], .int .i64 0]) (by simp [results, Try.results33, go_sem, X0, X1, X2]) rfl ?_
        rw [HR.out]
        have hfar : ∀ p : Addr, w.heap.size + 2 ≤ p.block → ∀ (a b c : Value), (((w5.setCell ⟨w.heap.size + 1, 0, none⟩ a).setCell ⟨w.heap.size + 1, 1, none⟩ b).setCell ⟨w.heap.size + 1, 2, none⟩ c).cell? p = w5.cell? p := fun p hp a b c => by
          rw [World.cell?_setCell_far _ _ _ _ (by simp; omega), World.cell?_setCell_far _ _ _ _ (by simp; omega), World.cell?_setCell_far _ _ _ _ (by simp; omega)]
        refine ⟨A4, c4, A5, c5, rfl, HA4.out _ (fun p h1 h2 => (hfar p (by omega) _ _ _).trans (HB45.out.cell h2)) (by simp; omega), HA5.out _ (fun p h1 h2 => hfar p (by omega) _ _ _) (by simp), ?_⟩
        have hbA : Below w.heap.size w w5 := HL.out.trans (HB5.out.mono (by omega))
        exact ((hbA.setCell (by first | omega | (simp; omega) | (simp; done)) _).setCell (by first | omega | (simp; omega) | (simp; done)) _).setCell (by first | omega | (simp; omega) | (simp; done)) _
      · simp only [Bool.not_eq_true] at hk
        rw [hk] at HK
        have HR : Hid (readR s ch kind = (0, [], [], 7)) := (by simp [readR, vs, hc, hk] : readR s ch kind = (0, [], [], 7))
        go_enter Try.func33, Try.ntmps33
        go_wp2_with fail
        refine ((HC _ (by (repeat (first | exact Below.refl _ _ | assumption | (refine Below.alloc ?_ (by first | omega | (simp; omega) | (simp; done)) _) | (refine Below.setCell ?_ (by first | omega | (simp; omega) | (simp; done)) _) | (refine Below.drew ?_) | (refine belowN ?_ _) | (refine Below.trans ?_ (Below.mono ‹Below _ _ _› (by first | omega | (simp; omega) | (simp; done)))))))).out).mono ?_
        rintro e w1 ⟨rfl, hb1⟩
        have hc1 := fun b o (h : b < w.heap.size + 2) => (bcell hb1).1 b o (by simp; omega)
        have hf1 := fun b o (h : b < w.heap.size + 2) => (bcell hb1).2 b o (by simp; omega)
        have hk1 := fun b (h : b < w.heap.size + 2) => hb1.block b (by simp; omega)
        have hz1 : w.heap.size + 2 ≤ w1.heap.size := (by have := hb1.size; simp at this; omega)
        go_wp2_with fail
        refine ((HI _ (by (repeat (first | exact Below.refl _ _ | assumption | (refine Below.alloc ?_ (by first | omega | (simp; omega) | (simp; done)) _) | (refine Below.setCell ?_ (by first | omega | (simp; omega) | (simp; done)) _) | (refine Below.drew ?_) | (refine belowN ?_ _) | (refine Below.trans ?_ (Below.mono ‹Below _ _ _› (by first | omega | (simp; omega) | (simp; done)))))))).out).mono ?_
        rintro e w2 ⟨rfl, hb2⟩
        have hc2 := fun b o (h : b < w.heap.size + 2) => ((bcell hb2).1 b o (by omega)).trans (hc1 b o h)
        have hf2 := fun b o (h : b < w.heap.size + 2) => ((bcell hb2).2 b o (by omega)).trans (hf1 b o h)
        have hk2 := fun b (h : b < w.heap.size + 2) => (hb2.block b (by omega)).trans (hk1 b h)
        have hz2 : w.heap.size + 2 ≤ w2.heap.size := (by have := hb2.size; omega)
        go_wp2_with fail
        refine ((HK _).out).mono ?_
        rintro e w3 ⟨rfl, hb3⟩
        have hc3 := fun b o (h : b < w.heap.size + 2) => ((bcell hb3).1 b o (by omega)).trans (hc2 b o h)
        have hf3 := fun b o (h : b < w.heap.size + 2) => ((bcell hb3).2 b o (by omega)).trans (hf2 b o h)
        have hk3 := fun b (h : b < w.heap.size + 2) => (hb3.block b (by omega)).trans (hk2 b h)
        have hz3 : w.heap.size + 2 ≤ w3.heap.size := (by have := hb3.size; omega)
        go_wp2
        refine bodyPost_ret (v := .tuple #[.agg #[.int .i64 0, .slice none 0 0, .slice none 0 0], .int .i64 7]) (by simp [results, Try.results33, go_sem, hc3]) rfl ?_
        rw [HR.out]
        exact retRead_nil (by (repeat (first | exact Below.refl _ _ | assumption | (refine Below.alloc ?_ (by first | omega | (simp; omega) | (simp; done)) _) | (refine Below.setCell ?_ (by first | omega | (simp; omega) | (simp; done)) _) | (refine Below.drew ?_) | (refine belowN ?_ _) | (refine Below.trans ?_ (Below.mono ‹Below _ _ _› (by first | omega | (simp; omega) | (simp; done)))))))
    · simp only [Bool.not_eq_true] at hc
      have HR : Hid (readR s ch kind = (0, [], [], 4)) := (by simp [readR, vs, hc] : readR s ch kind = (0, [], [], 4))
      rw [hc] at HI
      go_enter Try.func33, Try.ntmps33
      go_wp2_with fail
      refine ((HC _ (by (repeat (first | exact Below.refl _ _ | assumption | (refine Below.alloc ?_ (by first | omega | (simp; omega) | (simp; done)) _) | (refine Below.setCell ?_ (by first | omega | (simp; omega) | (simp; done)) _) | (refine Below.drew ?_) | (refine belowN ?_ _) | (refine Below.trans ?_ (Below.mono ‹Below _ _ _› (by first | omega | (simp; omega) | (simp; done)))))))).out).mono ?_
      rintro e w1 ⟨rfl, hb1⟩
      have hc1 := fun b o (h : b < w.heap.size + 2) => (bcell hb1).1 b o (by simp; omega)
      have hf1 := fun b o (h : b < w.heap.size + 2) => (bcell hb1).2 b o (by simp; omega)
      have hk1 := fun b (h : b < w.heap.size + 2) => hb1.block b (by simp; omega)
      have hz1 : w.heap.size + 2 ≤ w1.heap.size := (by have := hb1.size; simp at this; omega)
      go_wp2_with fail
      refine ((HI _ (by (repeat (first | exact Below.refl _ _ | assumption | (refine Below.alloc ?_ (by first | omega | (simp; omega) | (simp; done)) _) | (refine Below.setCell ?_ (by first | omega | (simp; omega) | (simp; done)) _) | (refine Below.drew ?_) | (refine belowN ?_ _) | (refine Below.trans ?_ (Below.mono ‹Below _ _ _› (by first | omega | (simp; omega) | (simp; done)))))))).out).mono ?_
      rintro e w2 ⟨rfl, hb2⟩
      have hc2 := fun b o (h : b < w.heap.size + 2) => ((bcell hb2).1 b o (by omega)).trans (hc1 b o h)
      have hf2 := fun b o (h : b < w.heap.size + 2) => ((bcell hb2).2 b o (by omega)).trans (hf1 b o h)
      have hk2 := fun b (h : b < w.heap.size + 2) => (hb2.block b (by omega)).trans (hk1 b h)
      have hz2 : w.heap.size + 2 ≤ w2.heap.size := (by have := hb2.size; omega)
      go_wp2
      refine bodyPost_ret (v := .tuple #[.agg #[.int .i64 0, .slice none 0 0, .slice none 0 0], .int .i64 4]) (by simp [results, Try.results33, go_sem, hc2]) rfl ?_
      rw [HR.out]
      exact retRead_nil (by (repeat (first | exact Below.refl _ _ | assumption | (refine Below.alloc ?_ (by first | omega | (simp; omega) | (simp; done)) _) | (refine Below.setCell ?_ (by first | omega | (simp; omega) | (simp; done)) _) | (refine Below.drew ?_) | (refine belowN ?_ _) | (refine Below.trans ?_ (Below.mono ‹Below _ _ _› (by first | omega | (simp; omega) | (simp; done)))))))
  · simp only [Bool.not_eq_true] at vs
    have HC := fun W (hW : Below w.heap.size w W) => Lib.hid (chk_any vs W ((hr.below hW).more hW.size))
    have HR : Hid (readR s ch kind = (0, [], [], 2)) := (by simp [readR, vs] : readR s ch kind = (0, [], [], 2))
    go_enter Try.func33, Try.ntmps33
    go_wp2_with fail
    refine ((HC _ (by (repeat (first | exact Below.refl _ _ | assumption | (refine Below.alloc ?_ (by first | omega | (simp; omega) | (simp; done)) _) | (refine Below.setCell ?_ (by first | omega | (simp; omega) | (simp; done)) _) | (refine Below.drew ?_) | (refine belowN ?_ _) | (refine Below.trans ?_ (Below.mono ‹Below _ _ _› (by first | omega | (simp; omega) | (simp; done)))))))).out).mono ?_
    rintro e w1 ⟨rfl, hb1⟩
    have hc1 := fun b o (h : b < w.heap.size + 2) => (bcell hb1).1 b o (by simp; omega)
    have hf1 := fun b o (h : b < w.heap.size + 2) => (bcell hb1).2 b o (by simp; omega)
    have hk1 := fun b (h : b < w.heap.size + 2) => hb1.block b (by simp; omega)
    have hz1 : w.heap.size + 2 ≤ w1.heap.size := (by have := hb1.size; simp at this; omega)
    go_wp2
    refine bodyPost_ret (v := .tuple #[.agg #[.int .i64 0, .slice none 0 0, .slice none 0 0], .int .i64 2]) (by simp [results, Try.results33, go_sem, hc1]) rfl ?_
    rw [HR.out]
    exact retRead_nil (by (repeat (first | exact Below.refl _ _ | assumption | (refine Below.alloc ?_ (by first | omega | (simp; omega) | (simp; done)) _) | (refine Below.setCell ?_ (by first | omega | (simp; omega) | (simp; done)) _) | (refine Below.drew ?_) | (refine belowN ?_ _) | (refine Below.trans ?_ (Below.mono ‹Below _ _ _› (by first | omega | (simp; omega) | (simp; done)))))))
end Go.Proofs.Ytidlmbajpbbilaa
namespace Go.Proofs.Ytidlmbajpbbilaa
open Go.RowKit
attribute [local go_sem] Oper.semAt_some

/-- a slice in blocks from z on -/
def SlZ {α : Type} (f : α → List Value) (size z : Nat) (W : World) (A : Option Addr) (l : List α) : Prop := Sl f size W W.heap.size A l ∧ ∀ q, A = some q → z ≤ q.block
theorem Sl.of_ownZ {α : Type} {f : α → List Value} {size : Nat} {w : World} {base : Nat} {e : TypeId} {v : Value} {l : List α} (h : w.ownsRow base e size v l.length (flat f l)) :
    ∃ A c, v = .slice A l.length c ∧ Sl f size w w.heap.size A l ∧ ∀ q, A = some q → base ≤ q.block := by
  obtain ⟨A, c, hv, hsl⟩ := Sl.of_own h
  refine ⟨A, c, hv, hsl, fun q hq => ?_⟩
  subst hv
  exact (h.lt q.block (by rw [hq]; rfl)).1
theorem SlZ.stab {α : Type} {f : α → List Value} {B size z : Nat} (A : Option Addr) (l : List α) : Stab B (fun W => SlZ f size z W A l) := (Stab.sl A l).and (Stab.pure _)
theorem SlZ.keep {α : Type} {f : α → List Value} {size z : Nat} {W W' : World} {A : Option Addr} {l : List α} (h : SlZ f size z W A l) (hk : ∀ p : Addr, z ≤ p.block → p.block < W.heap.size → W'.cell? p = W.cell? p) (hz : W.heap.size ≤ W'.heap.size) : SlZ f size z W' A l :=
  ⟨⟨h.1.1, fun hn => by
    obtain ⟨b, o, e, hb, hc⟩ := h.1.2 hn
    exact ⟨b, o, e, by omega, fun j u hu => (hk ⟨b, o + j, none⟩ (h.2 ⟨b, o, none⟩ e) hb).trans (hc j u hu)⟩⟩, h.2⟩
def EncChartB (s : Sch) (z : Nat) (k : Nat) (W : World) (xs : Array Value) : Prop :=
  ∃ A c, xs = #[.int .i64 (k : Int), .slice A s.places.toNat c] ∧ SlZ intCell 1 z W A (chartL s k)

set_option maxRecDepth 100000 in
set_option maxHeartbeats 1000000 in
theorem all1_iterB (z : Nat) (s : Sch) (R : Value) (B : Nat) (hs : Small s) (hc : chartsN s.signs s.places.toNat ≤ 4096) :
    Iter 85 #[.pointer (some ⟨B, 0, none⟩)] (fun W => ScBox W B s R ∧ z ≤ W.heap.size) (EncChartB s z) (chartsN s.signs s.places.toNat).toNat := by
  intro l J Jx W hJs hJxs hJD hY h0
  have hcb := chartsN_bd s.signs hs.2.2.1 s.places.toNat
  obtain ⟨N, hN⟩ := Int.eq_ofNat_of_zero_le (a := chartsN s.signs s.places.toNat) (by omega)
  have HC := fun W => Lib.hid (hN ▸ charts_any s R hs.1 hs.2.1 hs.2.2.1 hs.2.2.2 W)
  have HCH := fun (k : Nat) (hk : k ≤ 4096) W => Lib.hid (chart_any s R (k : Int) hs (by omega) (by omega) W)
  rw [hN] at hY hc ⊢
  simp only [Int.toNat_natCast] at hY ⊢
  have HJs := Lib.hid hJs; have HJD := Lib.hid hJD; have HY := Lib.hid hY
  have hbx := (hJD 0 W h0).1
  obtain ⟨hB, b0, b1, b2, b3, b4⟩ := hbx
  have H0 := Lib.hid h0
  have hcs : N ≤ 4096 := by omega
  clear hJs hJD hY h0 hN hcb hc hJxs
  obtain ⟨pl, sg, kk, aa, ra, rc, rs⟩ := s
  simp only at *
  rw [← callsIn_wide (n := 2)]
  refine callsIn_of_wp Try.func85 rfl trivial ?_ rfl
  simp only [Try.ntmps85, List.size_toArray, List.length_cons, List.length_nil, Nat.reduceAdd, Nat.reduceSub, Array.replicate_succ, Array.replicate_zero, List.push_toArray, List.append_toArray, List.nil_append, List.cons_append]
  gi_wp2
  refine ⟨trivial, (callsIn_wide.2 (HC _).out).mono ?_⟩
  rintro e w1 ⟨rfl, hb1⟩
  have HJ1 := Lib.hid (HJs.out 0 W w1 H0.out hb1)
  gi_wp2
  gi_loopw [6] (fun i wr => ∃ k : Nat, k ≤ N ∧ i = .int .i64 k ∧ Hid (J k wr)) (fun i _ => N - (intOf i).toNat)
  case atStart => exact ⟨0, by omega, rfl, HJ1⟩
  case round =>
    obtain ⟨k, hk, rfl, hj⟩ := hrel
    obtain ⟨⟨hB', q0, q1, q2, q3, q4⟩, hz⟩ := HJD.out k wr hj.out
    by_cases hlt : k < N
    · gi_wp2
      refine ⟨trivial, (callsIn_wide.2 (HCH k (by omega) _).out).mono ?_⟩
      rintro e w2 ⟨v, rfl, hown, hb2⟩
      have hj2 := HJs.out k wr w2 hj.out hb2
      obtain ⟨A, c, rfl, hsl, hzz⟩ := Sl.of_ownZ hown
      rw [digits_len] at *
      obtain ⟨fn, tmps, assign, body, hy, hR⟩ := HY.out k w2 #[.int .i64 (k : Int), .slice A pl.toNat c] hlt hj2 ⟨A, c, rfl, hsl, fun q hq => Nat.le_trans hz (hzz q hq)⟩
      have HRR := Lib.hid hR
      clear hown hsl hzz hR hj2 hb2
      gi_wp2
      refine HRR.out.mono ?_
      rintro e W3 (⟨rfl, hJ3⟩ | ⟨rfl, hJx3⟩)
      · have HJ3 := Lib.hid hJ3
        clear hJ3
        gi_wp2
        go_roundw
        case rel => exact ⟨k + 1, by omega, by go_num, HJ3⟩
        case measure => simp [intOf]; omega
      · have HJ3 := Lib.hid hJx3
        clear hJx3
        gi_wp2
        refine bodyPost_ret (results_none rfl _ _ _) rfl ?_
        exact ⟨⟨_, rfl⟩, .inr HJ3.out⟩
    · obtain rfl : k = N := by omega
      gi_wp2
      go_end0
      exact ⟨⟨_, rfl⟩, .inl hj.out⟩

end Go.Proofs.Ytidlmbajpbbilaa

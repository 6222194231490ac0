/- almanac: upto, isSpan, isTest. -/
import Derived.Test.YtfbnllmmoaialaaGreatAm
import Derived.Test.YtfbnllmmoaialaaGreatZ08Aj
namespace Go.Proofs.YtfbnllmmoaialaaGreat
open Go.RowKit

theorem upto12_any (w : World) : Calls Tryz.prog 98 #[.int .i64 12] w fun e w' => e = .returned (.int .u64 8190) ∧ w = w' := by
  go_enter Tryz.func98, Tryz.ntmps98
  go_wp2
  go_ret
  exact ⟨rfl, rfl⟩
theorem upto31_any (w : World) : Calls Tryz.prog 98 #[.int .i64 31] w fun e w' => e = .returned (.int .u64 4294967294) ∧ w = w' := by
  go_enter Tryz.func98, Tryz.ntmps98
  go_wp2
  go_ret
  exact ⟨rfl, rfl⟩
/-- days that can be looked through -/
def spanB (a b : Int) : Bool := inB a 0 1000000 && inB b 0 1000000 && inB (b - a) 0 4000
theorem isSpan_any (a b : Int) (w : World) : Calls Tryz.prog 24 #[.int .i64 a, .int .i64 b] w fun e w' => e = .returned (.bool (spanB a b)) ∧ Below w.heap.size w w' := by
  cases h1 : inB a 0 1000000 with
  | false =>
    have HA := Lib.hid (fun W => isDay_val h1 W)
    have HT : Hid (spanB a b = false) := (by simp [spanB, h1] : spanB a b = false)
    clear h1
    go_enter Tryz.func24, Tryz.ntmps24
    go_wp2_with (go_at_call 36; (with_reducible refine (HA.out _).mono ?_); rintro _ _ ⟨rfl, rfl⟩)
    go_ret
    exact ⟨ret_bool HT.out.symm, by (repeat (first | exact Below.refl _ _ | assumption | (refine Below.alloc ?_ (by first | omega | (simp; omega) | (simp; done)) _) | (refine Below.setCell ?_ (by first | omega | (simp; omega) | (simp; done)) _) | (refine Below.drew ?_) | (refine belowN ?_ _) | (refine Below.trans ?_ (Below.mono ‹Below _ _ _› (by first | omega | (simp; omega) | (simp; done))))))⟩
  | true =>
    have a1 := inB_iff.1 h1
    cases h2 : inB b 0 1000000 with
    | false =>
      have HA := Lib.hid (fun W => isDay_val h1 W)
      have HB := Lib.hid (fun W => isDay_val h2 W)
      have HT : Hid (spanB a b = false) := (by simp [spanB, h2] : spanB a b = false)
      clear h1 h2
      go_enter Tryz.func24, Tryz.ntmps24
      go_wp2_with (first | (go_at_call 36; (with_reducible refine (HB.out _).mono ?_); rintro _ _ ⟨rfl, rfl⟩) | (go_at_call 36; (with_reducible refine (HA.out _).mono ?_); rintro _ _ ⟨rfl, rfl⟩))
      go_ret
      exact ⟨ret_bool HT.out.symm, by (repeat (first | exact Below.refl _ _ | assumption | (refine Below.alloc ?_ (by first | omega | (simp; omega) | (simp; done)) _) | (refine Below.setCell ?_ (by first | omega | (simp; omega) | (simp; done)) _) | (refine Below.drew ?_) | (refine belowN ?_ _) | (refine Below.trans ?_ (Below.mono ‹Below _ _ _› (by first | omega | (simp; omega) | (simp; done))))))⟩
    | true =>
      have a2 := inB_iff.1 h2
      have HA := Lib.hid (fun W => isDay_val h1 W)
      have HB := Lib.hid (fun W => isDay_val h2 W)
      have HT : Hid (spanB a b = inB (b - a) 0 4000) := (by simp [spanB, h1, h2] : spanB a b = inB (b - a) 0 4000)
      have w1 : IntKind.i64.wrap (b - a) = b - a := IntWalk.i64_in _ ⟨by omega, by omega⟩
      clear h1 h2
      go_enter Tryz.func24, Tryz.ntmps24
      go_wp2_with (first | (go_at_call 36; (with_reducible refine (HB.out _).mono ?_); rintro _ _ ⟨rfl, rfl⟩) | (go_at_call 36; (with_reducible refine (HA.out _).mono ?_); rintro _ _ ⟨rfl, rfl⟩) | (go_at_call 35; refine (within_any _ _ _ _).mono ?_; rintro _ _ ⟨rfl, rfl⟩))
      go_ret
      exact ⟨ret_bool HT.out.symm, by (repeat (first | exact Below.refl _ _ | assumption | (refine Below.alloc ?_ (by first | omega | (simp; omega) | (simp; done)) _) | (refine Below.setCell ?_ (by first | omega | (simp; omega) | (simp; done)) _) | (refine Below.drew ?_) | (refine belowN ?_ _) | (refine Below.trans ?_ (Below.mono ‹Below _ _ _› (by first | omega | (simp; omega) | (simp; done))))))⟩
/-- a set has no number but those of another one -/
def subB (x m : Int) : Bool := bits BinOp.andNot IntKind.u64 x m == 0
/-- a test is valid -/
def tstB (l : List Cyc) (t : DTs) : Bool :=
  if t.kind = 1 then inB t.which 0 (l.length - 1) && t.fr == 0 && t.to_ == 0 && (match l[t.which.toNat]? with | some c => subB t.set (18446744073709551615 / 2 ^ (64 - c.l).toNat) | none => false)
  else if t.kind = 2 ∨ t.kind = 4 then t.which == 0 && t.fr == 0 && t.to_ == 0 && subB t.set 8190
  else if t.kind = 3 ∨ t.kind = 5 then t.which == 0 && t.fr == 0 && t.to_ == 0 && subB t.set 4294967294
  else if t.kind = 6 then t.which == 0 && t.fr == 0 && t.to_ == 0 && subB t.set 0
  else if t.kind = 7 then inB t.fr 0 1000000 && inB t.to_ 0 1000000 && t.which == 0 && subB t.set 0
  else false
end Go.Proofs.YtfbnllmmoaialaaGreat
namespace Go.Proofs.YtfbnllmmoaialaaGreat
open Go.RowKit

set_option maxRecDepth 100000 in
set_option maxHeartbeats 4000000 in
theorem isTest1_any (A : Option Addr) (c : Nat) (l : List Cyc) (e b u d p f m y s k : Int) (wh st fr to_ : Int) (w : World) (hl : l.length ≤ 8) (hc : ∀ x ∈ l, cycB x = true) (hs : 0 ≤ st ∧ st < 18446744073709551616) (hr : Sl Cyc.cells 2 w w.heap.size A l) :
    Calls Tryz.prog 75 #[.agg #[.slice A l.length c, .int .i64 e, .int .i64 b, .int .i64 u, .int .i64 d, .int .i64 p, .int .i64 f, .int .i64 m, .int .i64 y, .int .i64 s, .int .i64 k], .agg #[.int .i64 1, .int .i64 wh, .int .u64 st, .int .i64 fr, .int .i64 to_]] w fun en w' => en = .returned (.bool (tstB l ⟨1, wh, st, fr, to_⟩)) ∧ Below w.heap.size w w' := by
  have v0 : IntKind.i64.wrap ((l.length : Int) - 1) = (l.length : Int) - 1 := IntWalk.i64_in _ ⟨by omega, by omega⟩
  cases y1 : inB wh 0 ((l.length : Int) - 1) with
  | false =>
    have HW := Lib.hid (fun W => within_val y1 W)
    have HT : Hid (tstB l ⟨1, wh, st, fr, to_⟩ = false) := (by simp [tstB, y1] : tstB l ⟨1, wh, st, fr, to_⟩ = false)
    clear y1 hr
    go_enter Tryz.func75, Tryz.ntmps75
    go_wp2_with (go_at_call 35; (with_reducible refine (HW.out _).mono ?_); rintro _ _ ⟨rfl, rfl⟩)
    go_ret
    exact ⟨ret_bool HT.out.symm, by (repeat (first | exact Below.refl _ _ | assumption | (refine Below.alloc ?_ (by first | omega | (simp; omega) | (simp; done)) _) | (refine Below.setCell ?_ (by first | omega | (simp; omega) | (simp; done)) _) | (refine Below.drew ?_) | (refine belowN ?_ _) | (refine Below.trans ?_ (Below.mono ‹Below _ _ _› (by first | omega | (simp; omega) | (simp; done))))))⟩
  | true =>
    have HW := Lib.hid (fun W => within_val y1 W)
    obtain ⟨a1, a2⟩ := inB_iff.1 y1
    obtain ⟨n, rfl⟩ := Int.eq_ofNat_of_zero_le a1
    have hn : n < l.length := by omega
    obtain ⟨ab, ao, rfl, hblk, hcell⟩ := hr.at_ (fun _ => rfl) hn
    have hq := hc _ (List.getElem_mem hn)
    have HE : ∀ q : Cyc, q = l[n] → Hid (tstB l ⟨1, (n : Int), st, fr, to_⟩ = (fr == 0 && to_ == 0 && subB st (18446744073709551615 / 2 ^ (64 - q.l).toNat))) := fun q hq => (by
      have h1 : l[(n : Int).toNat]? = some q := by rw [hq]; simp [List.getElem?_eq_getElem hn]
      simp only [tstB, y1, if_true, Bool.true_and, h1] : tstB l ⟨1, (n : Int), st, fr, to_⟩ = _)
    obtain ⟨q, hqe⟩ : ∃ q, q = l[n] := ⟨_, rfl⟩
    have HT := HE q hqe
    rw [← hqe] at hq hcell
    obtain ⟨ql, qs⟩ := q
    have e0 : w.cell? ⟨ab, ao + n * 2, none⟩ = some (.int .i64 ql) := hcell 0 _ rfl
    obtain ⟨⟨l1, l2⟩, -⟩ := cycB_iff.1 hq
    simp only at l1 l2 HT
    obtain ⟨mm, hmm⟩ : ∃ x : Nat, (64 : Int) - ql = x := Int.eq_ofNat_of_zero_le (by omega)
    have v1 : IntKind.i64.wrap (64 - ql) = (mm : Int) := by rw [hmm]; exact IntWalk.i64_in _ ⟨by omega, by omega⟩
    have hm64 : mm < 64 := by omega
    rw [hmm, Int.toNat_natCast] at HT
    have k1 : (n : Int) < (l.length : Int) := by omega
    clear y1 hr hcell HE hqe hq hmm hc
    cases z2 : (fr == 0) with
    | false =>
      go_enter Tryz.func75, Tryz.ntmps75
      go_wp2_with (go_at_call 35; (with_reducible refine (HW.out _).mono ?_); rintro _ _ ⟨rfl, rfl⟩)
      go_ret
      exact ⟨ret_bool (by rw [HT.out, z2]; rfl), by (repeat (first | exact Below.refl _ _ | assumption | (refine Below.alloc ?_ (by first | omega | (simp; omega) | (simp; done)) _) | (refine Below.setCell ?_ (by first | omega | (simp; omega) | (simp; done)) _) | (refine Below.drew ?_) | (refine belowN ?_ _) | (refine Below.trans ?_ (Below.mono ‹Below _ _ _› (by first | omega | (simp; omega) | (simp; done))))))⟩
    | true =>
      cases z3 : (to_ == 0) with
      | false =>
        go_enter Tryz.func75, Tryz.ntmps75
        go_wp2_with (go_at_call 35; (with_reducible refine (HW.out _).mono ?_); rintro _ _ ⟨rfl, rfl⟩)
        go_ret
        exact ⟨ret_bool (by rw [HT.out, z2, z3]; rfl), by (repeat (first | exact Below.refl _ _ | assumption | (refine Below.alloc ?_ (by first | omega | (simp; omega) | (simp; done)) _) | (refine Below.setCell ?_ (by first | omega | (simp; omega) | (simp; done)) _) | (refine Below.drew ?_) | (refine belowN ?_ _) | (refine Below.trans ?_ (Below.mono ‹Below _ _ _› (by first | omega | (simp; omega) | (simp; done))))))⟩
      | true =>
        go_enter Tryz.func75, Tryz.ntmps75
        go_wp2_with (go_at_call 35; (with_reducible refine (HW.out _).mono ?_); rintro _ _ ⟨rfl, rfl⟩)
        go_ret
        exact ⟨ret_bool (by rw [HT.out, z2, z3]; rfl), by (repeat (first | exact Below.refl _ _ | assumption | (refine Below.alloc ?_ (by first | omega | (simp; omega) | (simp; done)) _) | (refine Below.setCell ?_ (by first | omega | (simp; omega) | (simp; done)) _) | (refine Below.drew ?_) | (refine belowN ?_ _) | (refine Below.trans ?_ (Below.mono ‹Below _ _ _› (by first | omega | (simp; omega) | (simp; done))))))⟩
end Go.Proofs.YtfbnllmmoaialaaGreat
namespace Go.Proofs.YtfbnllmmoaialaaGreat
open Go.RowKit

set_option maxRecDepth 100000 in
set_option maxHeartbeats 4000000 in
theorem isTest_any (A : Option Addr) (c : Nat) (l : List Cyc) (e b u d p f m y s k : Int) (kd wh st fr to_ : Int) (w : World) (hl : l.length ≤ 8) (hc : ∀ x ∈ l, cycB x = true) (hs : 0 ≤ st ∧ st < 18446744073709551616) (hr : Sl Cyc.cells 2 w w.heap.size A l) :
    Calls Tryz.prog 75 #[.agg #[.slice A l.length c, .int .i64 e, .int .i64 b, .int .i64 u, .int .i64 d, .int .i64 p, .int .i64 f, .int .i64 m, .int .i64 y, .int .i64 s, .int .i64 k], .agg #[.int .i64 kd, .int .i64 wh, .int .u64 st, .int .i64 fr, .int .i64 to_]] w fun en w' => en = .returned (.bool (tstB l ⟨kd, wh, st, fr, to_⟩)) ∧ Below w.heap.size w w' := by
  by_cases h1 : kd = 1
  · subst h1; exact isTest1_any A c l e b u d p f m y s k wh st fr to_ w hl hc hs hr
  by_cases h2 : kd = 2
  · subst h2
    clear hr
    cases z1 : (wh == 0) with
    | false => ((go_enter Tryz.func75, Tryz.ntmps75; go_wp2_with (first | (go_at_call 98; (with_reducible refine (upto12_any _).mono ?_); rintro _ _ ⟨rfl, rfl⟩) | (go_at_call 98; (with_reducible refine (upto31_any _).mono ?_); rintro _ _ ⟨rfl, rfl⟩)); go_ret); exact ⟨ret_bool (by simp [tstB, z1]), by (repeat (first | exact Below.refl _ _ | assumption | (refine Below.alloc ?_ (by first | omega | (simp; omega) | (simp; done)) _) | (refine Below.setCell ?_ (by first | omega | (simp; omega) | (simp; done)) _) | (refine Below.drew ?_) | (refine belowN ?_ _) | (refine Below.trans ?_ (Below.mono ‹Below _ _ _› (by first | omega | (simp; omega) | (simp; done))))))⟩)
    | true =>
      cases z2 : (fr == 0) with
      | false => ((go_enter Tryz.func75, Tryz.ntmps75; go_wp2_with (first | (go_at_call 98; (with_reducible refine (upto12_any _).mono ?_); rintro _ _ ⟨rfl, rfl⟩) | (go_at_call 98; (with_reducible refine (upto31_any _).mono ?_); rintro _ _ ⟨rfl, rfl⟩)); go_ret); exact ⟨ret_bool (by simp [tstB, z2]), by (repeat (first | exact Below.refl _ _ | assumption | (refine Below.alloc ?_ (by first | omega | (simp; omega) | (simp; done)) _) | (refine Below.setCell ?_ (by first | omega | (simp; omega) | (simp; done)) _) | (refine Below.drew ?_) | (refine belowN ?_ _) | (refine Below.trans ?_ (Below.mono ‹Below _ _ _› (by first | omega | (simp; omega) | (simp; done))))))⟩)
      | true =>
        cases z3 : (to_ == 0) with
        | false => ((go_enter Tryz.func75, Tryz.ntmps75; go_wp2_with (first | (go_at_call 98; (with_reducible refine (upto12_any _).mono ?_); rintro _ _ ⟨rfl, rfl⟩) | (go_at_call 98; (with_reducible refine (upto31_any _).mono ?_); rintro _ _ ⟨rfl, rfl⟩)); go_ret); exact ⟨ret_bool (by simp [tstB, z3]), by (repeat (first | exact Below.refl _ _ | assumption | (refine Below.alloc ?_ (by first | omega | (simp; omega) | (simp; done)) _) | (refine Below.setCell ?_ (by first | omega | (simp; omega) | (simp; done)) _) | (refine Below.drew ?_) | (refine belowN ?_ _) | (refine Below.trans ?_ (Below.mono ‹Below _ _ _› (by first | omega | (simp; omega) | (simp; done))))))⟩)
        | true =>
          cases z4 : (bits BinOp.andNot IntKind.u64 st 8190 == 0) <;> (go_enter Tryz.func75, Tryz.ntmps75; go_wp2_with (first | (go_at_call 98; (with_reducible refine (upto12_any _).mono ?_); rintro _ _ ⟨rfl, rfl⟩) | (go_at_call 98; (with_reducible refine (upto31_any _).mono ?_); rintro _ _ ⟨rfl, rfl⟩)); go_ret) <;> exact ⟨ret_bool (by simp [tstB, subB, z1, z2, z3, z4]), by (repeat (first | exact Below.refl _ _ | assumption | (refine Below.alloc ?_ (by first | omega | (simp; omega) | (simp; done)) _) | (refine Below.setCell ?_ (by first | omega | (simp; omega) | (simp; done)) _) | (refine Below.drew ?_) | (refine belowN ?_ _) | (refine Below.trans ?_ (Below.mono ‹Below _ _ _› (by first | omega | (simp; omega) | (simp; done))))))⟩
  by_cases h3 : kd = 3
  · subst h3
    clear hr
    cases z1 : (wh == 0) with
    | false => ((go_enter Tryz.func75, Tryz.ntmps75; go_wp2_with (first | (go_at_call 98; (with_reducible refine (upto12_any _).mono ?_); rintro _ _ ⟨rfl, rfl⟩) | (go_at_call 98; (with_reducible refine (upto31_any _).mono ?_); rintro _ _ ⟨rfl, rfl⟩)); go_ret); exact ⟨ret_bool (by simp [tstB, z1]), by (repeat (first | exact Below.refl _ _ | assumption | (refine Below.alloc ?_ (by first | omega | (simp; omega) | (simp; done)) _) | (refine Below.setCell ?_ (by first | omega | (simp; omega) | (simp; done)) _) | (refine Below.drew ?_) | (refine belowN ?_ _) | (refine Below.trans ?_ (Below.mono ‹Below _ _ _› (by first | omega | (simp; omega) | (simp; done))))))⟩)
    | true =>
      cases z2 : (fr == 0) with
      | false => ((go_enter Tryz.func75, Tryz.ntmps75; go_wp2_with (first | (go_at_call 98; (with_reducible refine (upto12_any _).mono ?_); rintro _ _ ⟨rfl, rfl⟩) | (go_at_call 98; (with_reducible refine (upto31_any _).mono ?_); rintro _ _ ⟨rfl, rfl⟩)); go_ret); exact ⟨ret_bool (by simp [tstB, z2]), by (repeat (first | exact Below.refl _ _ | assumption | (refine Below.alloc ?_ (by first | omega | (simp; omega) | (simp; done)) _) | (refine Below.setCell ?_ (by first | omega | (simp; omega) | (simp; done)) _) | (refine Below.drew ?_) | (refine belowN ?_ _) | (refine Below.trans ?_ (Below.mono ‹Below _ _ _› (by first | omega | (simp; omega) | (simp; done))))))⟩)
      | true =>
        cases z3 : (to_ == 0) with
        | false => ((go_enter Tryz.func75, Tryz.ntmps75; go_wp2_with (first | (go_at_call 98; (with_reducible refine (upto12_any _).mono ?_); rintro _ _ ⟨rfl, rfl⟩) | (go_at_call 98; (with_reducible refine (upto31_any _).mono ?_); rintro _ _ ⟨rfl, rfl⟩)); go_ret); exact ⟨ret_bool (by simp [tstB, z3]), by (repeat (first | exact Below.refl _ _ | assumption | (refine Below.alloc ?_ (by first | omega | (simp; omega) | (simp; done)) _) | (refine Below.setCell ?_ (by first | omega | (simp; omega) | (simp; done)) _) | (refine Below.drew ?_) | (refine belowN ?_ _) | (refine Below.trans ?_ (Below.mono ‹Below _ _ _› (by first | omega | (simp; omega) | (simp; done))))))⟩)
        | true =>
          cases z4 : (bits BinOp.andNot IntKind.u64 st 4294967294 == 0) <;> (go_enter Tryz.func75, Tryz.ntmps75; go_wp2_with (first | (go_at_call 98; (with_reducible refine (upto12_any _).mono ?_); rintro _ _ ⟨rfl, rfl⟩) | (go_at_call 98; (with_reducible refine (upto31_any _).mono ?_); rintro _ _ ⟨rfl, rfl⟩)); go_ret) <;> exact ⟨ret_bool (by simp [tstB, subB, z1, z2, z3, z4]), by (repeat (first | exact Below.refl _ _ | assumption | (refine Below.alloc ?_ (by first | omega | (simp; omega) | (simp; done)) _) | (refine Below.setCell ?_ (by first | omega | (simp; omega) | (simp; done)) _) | (refine Below.drew ?_) | (refine belowN ?_ _) | (refine Below.trans ?_ (Below.mono ‹Below _ _ _› (by first | omega | (simp; omega) | (simp; done))))))⟩
  by_cases h4 : kd = 4
  · subst h4
    clear hr
    cases z1 : (wh == 0) with
    | false => ((go_enter Tryz.func75, Tryz.ntmps75; go_wp2_with (first | (go_at_call 98; (with_reducible refine (upto12_any _).mono ?_); rintro _ _ ⟨rfl, rfl⟩) | (go_at_call 98; (with_reducible refine (upto31_any _).mono ?_); rintro _ _ ⟨rfl, rfl⟩)); go_ret); exact ⟨ret_bool (by simp [tstB, z1]), by (repeat (first | exact Below.refl _ _ | assumption | (refine Below.alloc ?_ (by first | omega | (simp; omega) | (simp; done)) _) | (refine Below.setCell ?_ (by first | omega | (simp; omega) | (simp; done)) _) | (refine Below.drew ?_) | (refine belowN ?_ _) | (refine Below.trans ?_ (Below.mono ‹Below _ _ _› (by first | omega | (simp; omega) | (simp; done))))))⟩)
    | true =>
      cases z2 : (fr == 0) with
      | false => ((go_enter Tryz.func75, Tryz.ntmps75; go_wp2_with (first | (go_at_call 98; (with_reducible refine (upto12_any _).mono ?_); rintro _ _ ⟨rfl, rfl⟩) | (go_at_call 98; (with_reducible refine (upto31_any _).mono ?_); rintro _ _ ⟨rfl, rfl⟩)); go_ret); exact ⟨ret_bool (by simp [tstB, z2]), by (repeat (first | exact Below.refl _ _ | assumption | (refine Below.alloc ?_ (by first | omega | (simp; omega) | (simp; done)) _) | (refine Below.setCell ?_ (by first | omega | (simp; omega) | (simp; done)) _) | (refine Below.drew ?_) | (refine belowN ?_ _) | (refine Below.trans ?_ (Below.mono ‹Below _ _ _› (by first | omega | (simp; omega) | (simp; done))))))⟩)
      | true =>
        cases z3 : (to_ == 0) with
        | false => ((go_enter Tryz.func75, Tryz.ntmps75; go_wp2_with (first | (go_at_call 98; (with_reducible refine (upto12_any _).mono ?_); rintro _ _ ⟨rfl, rfl⟩) | (go_at_call 98; (with_reducible refine (upto31_any _).mono ?_); rintro _ _ ⟨rfl, rfl⟩)); go_ret); exact ⟨ret_bool (by simp [tstB, z3]), by (repeat (first | exact Below.refl _ _ | assumption | (refine Below.alloc ?_ (by first | omega | (simp; omega) | (simp; done)) _) | (refine Below.setCell ?_ (by first | omega | (simp; omega) | (simp; done)) _) | (refine Below.drew ?_) | (refine belowN ?_ _) | (refine Below.trans ?_ (Below.mono ‹Below _ _ _› (by first | omega | (simp; omega) | (simp; done))))))⟩)
        | true =>
          cases z4 : (bits BinOp.andNot IntKind.u64 st 8190 == 0) <;> (go_enter Tryz.func75, Tryz.ntmps75; go_wp2_with (first | (go_at_call 98; (with_reducible refine (upto12_any _).mono ?_); rintro _ _ ⟨rfl, rfl⟩) | (go_at_call 98; (with_reducible refine (upto31_any _).mono ?_); rintro _ _ ⟨rfl, rfl⟩)); go_ret) <;> exact ⟨ret_bool (by simp [tstB, subB, z1, z2, z3, z4]), by (repeat (first | exact Below.refl _ _ | assumption | (refine Below.alloc ?_ (by first | omega | (simp; omega) | (simp; done)) _) | (refine Below.setCell ?_ (by first | omega | (simp; omega) | (simp; done)) _) | (refine Below.drew ?_) | (refine belowN ?_ _) | (refine Below.trans ?_ (Below.mono ‹Below _ _ _› (by first | omega | (simp; omega) | (simp; done))))))⟩
  by_cases h5 : kd = 5
  · subst h5
    clear hr
    cases z1 : (wh == 0) with
    | false => ((go_enter Tryz.func75, Tryz.ntmps75; go_wp2_with (first | (go_at_call 98; (with_reducible refine (upto12_any _).mono ?_); rintro _ _ ⟨rfl, rfl⟩) | (go_at_call 98; (with_reducible refine (upto31_any _).mono ?_); rintro _ _ ⟨rfl, rfl⟩)); go_ret); exact ⟨ret_bool (by simp [tstB, z1]), by (repeat (first | exact Below.refl _ _ | assumption | (refine Below.alloc ?_ (by first | omega | (simp; omega) | (simp; done)) _) | (refine Below.setCell ?_ (by first | omega | (simp; omega) | (simp; done)) _) | (refine Below.drew ?_) | (refine belowN ?_ _) | (refine Below.trans ?_ (Below.mono ‹Below _ _ _› (by first | omega | (simp; omega) | (simp; done))))))⟩)
    | true =>
      cases z2 : (fr == 0) with
      | false => ((go_enter Tryz.func75, Tryz.ntmps75; go_wp2_with (first | (go_at_call 98; (with_reducible refine (upto12_any _).mono ?_); rintro _ _ ⟨rfl, rfl⟩) | (go_at_call 98; (with_reducible refine (upto31_any _).mono ?_); rintro _ _ ⟨rfl, rfl⟩)); go_ret); exact ⟨ret_bool (by simp [tstB, z2]), by (repeat (first | exact Below.refl _ _ | assumption | (refine Below.alloc ?_ (by first | omega | (simp; omega) | (simp; done)) _) | (refine Below.setCell ?_ (by first | omega | (simp; omega) | (simp; done)) _) | (refine Below.drew ?_) | (refine belowN ?_ _) | (refine Below.trans ?_ (Below.mono ‹Below _ _ _› (by first | omega | (simp; omega) | (simp; done))))))⟩)
      | true =>
        cases z3 : (to_ == 0) with
        | false => ((go_enter Tryz.func75, Tryz.ntmps75; go_wp2_with (first | (go_at_call 98; (with_reducible refine (upto12_any _).mono ?_); rintro _ _ ⟨rfl, rfl⟩) | (go_at_call 98; (with_reducible refine (upto31_any _).mono ?_); rintro _ _ ⟨rfl, rfl⟩)); go_ret); exact ⟨ret_bool (by simp [tstB, z3]), by (repeat (first | exact Below.refl _ _ | assumption | (refine Below.alloc ?_ (by first | omega | (simp; omega) | (simp; done)) _) | (refine Below.setCell ?_ (by first | omega | (simp; omega) | (simp; done)) _) | (refine Below.drew ?_) | (refine belowN ?_ _) | (refine Below.trans ?_ (Below.mono ‹Below _ _ _› (by first | omega | (simp; omega) | (simp; done))))))⟩)
        | true =>
          cases z4 : (bits BinOp.andNot IntKind.u64 st 4294967294 == 0) <;> (go_enter Tryz.func75, Tryz.ntmps75; go_wp2_with (first | (go_at_call 98; (with_reducible refine (upto12_any _).mono ?_); rintro _ _ ⟨rfl, rfl⟩) | (go_at_call 98; (with_reducible refine (upto31_any _).mono ?_); rintro _ _ ⟨rfl, rfl⟩)); go_ret) <;> exact ⟨ret_bool (by simp [tstB, subB, z1, z2, z3, z4]), by (repeat (first | exact Below.refl _ _ | assumption | (refine Below.alloc ?_ (by first | omega | (simp; omega) | (simp; done)) _) | (refine Below.setCell ?_ (by first | omega | (simp; omega) | (simp; done)) _) | (refine Below.drew ?_) | (refine belowN ?_ _) | (refine Below.trans ?_ (Below.mono ‹Below _ _ _› (by first | omega | (simp; omega) | (simp; done))))))⟩
  by_cases h6 : kd = 6
  · subst h6
    clear hr
    cases z1 : (wh == 0) with
    | false => ((go_enter Tryz.func75, Tryz.ntmps75; go_wp2_with (first | (go_at_call 98; (with_reducible refine (upto12_any _).mono ?_); rintro _ _ ⟨rfl, rfl⟩) | (go_at_call 98; (with_reducible refine (upto31_any _).mono ?_); rintro _ _ ⟨rfl, rfl⟩)); go_ret); exact ⟨ret_bool (by simp [tstB, z1]), by (repeat (first | exact Below.refl _ _ | assumption | (refine Below.alloc ?_ (by first | omega | (simp; omega) | (simp; done)) _) | (refine Below.setCell ?_ (by first | omega | (simp; omega) | (simp; done)) _) | (refine Below.drew ?_) | (refine belowN ?_ _) | (refine Below.trans ?_ (Below.mono ‹Below _ _ _› (by first | omega | (simp; omega) | (simp; done))))))⟩)
    | true =>
      cases z2 : (fr == 0) with
      | false => ((go_enter Tryz.func75, Tryz.ntmps75; go_wp2_with (first | (go_at_call 98; (with_reducible refine (upto12_any _).mono ?_); rintro _ _ ⟨rfl, rfl⟩) | (go_at_call 98; (with_reducible refine (upto31_any _).mono ?_); rintro _ _ ⟨rfl, rfl⟩)); go_ret); exact ⟨ret_bool (by simp [tstB, z2]), by (repeat (first | exact Below.refl _ _ | assumption | (refine Below.alloc ?_ (by first | omega | (simp; omega) | (simp; done)) _) | (refine Below.setCell ?_ (by first | omega | (simp; omega) | (simp; done)) _) | (refine Below.drew ?_) | (refine belowN ?_ _) | (refine Below.trans ?_ (Below.mono ‹Below _ _ _› (by first | omega | (simp; omega) | (simp; done))))))⟩)
      | true =>
        cases z3 : (to_ == 0) with
        | false => ((go_enter Tryz.func75, Tryz.ntmps75; go_wp2_with (first | (go_at_call 98; (with_reducible refine (upto12_any _).mono ?_); rintro _ _ ⟨rfl, rfl⟩) | (go_at_call 98; (with_reducible refine (upto31_any _).mono ?_); rintro _ _ ⟨rfl, rfl⟩)); go_ret); exact ⟨ret_bool (by simp [tstB, z3]), by (repeat (first | exact Below.refl _ _ | assumption | (refine Below.alloc ?_ (by first | omega | (simp; omega) | (simp; done)) _) | (refine Below.setCell ?_ (by first | omega | (simp; omega) | (simp; done)) _) | (refine Below.drew ?_) | (refine belowN ?_ _) | (refine Below.trans ?_ (Below.mono ‹Below _ _ _› (by first | omega | (simp; omega) | (simp; done))))))⟩)
        | true =>
          cases z4 : (bits BinOp.andNot IntKind.u64 st 0 == 0) <;> (go_enter Tryz.func75, Tryz.ntmps75; go_wp2_with (first | (go_at_call 98; (with_reducible refine (upto12_any _).mono ?_); rintro _ _ ⟨rfl, rfl⟩) | (go_at_call 98; (with_reducible refine (upto31_any _).mono ?_); rintro _ _ ⟨rfl, rfl⟩)); go_ret) <;> exact ⟨ret_bool (by simp [tstB, subB, z1, z2, z3, z4]), by (repeat (first | exact Below.refl _ _ | assumption | (refine Below.alloc ?_ (by first | omega | (simp; omega) | (simp; done)) _) | (refine Below.setCell ?_ (by first | omega | (simp; omega) | (simp; done)) _) | (refine Below.drew ?_) | (refine belowN ?_ _) | (refine Below.trans ?_ (Below.mono ‹Below _ _ _› (by first | omega | (simp; omega) | (simp; done))))))⟩
  by_cases h7 : kd = 7
  · subst h7
    clear hr
    cases y1 : inB fr 0 1000000 with
    | false =>
      have HA := Lib.hid (fun W => isDay_val y1 W)
      have HT : Hid (tstB l ⟨7, wh, st, fr, to_⟩ = false) := (by simp [tstB, y1] : tstB l ⟨7, wh, st, fr, to_⟩ = false)
      clear y1
      (go_enter Tryz.func75, Tryz.ntmps75; go_wp2_with (first | (go_at_call 36; (with_reducible refine (HB.out _).mono ?_); rintro _ _ ⟨rfl, rfl⟩) | (go_at_call 36; (with_reducible refine (HA.out _).mono ?_); rintro _ _ ⟨rfl, rfl⟩)); go_ret)
      exact ⟨ret_bool HT.out.symm, by (repeat (first | exact Below.refl _ _ | assumption | (refine Below.alloc ?_ (by first | omega | (simp; omega) | (simp; done)) _) | (refine Below.setCell ?_ (by first | omega | (simp; omega) | (simp; done)) _) | (refine Below.drew ?_) | (refine belowN ?_ _) | (refine Below.trans ?_ (Below.mono ‹Below _ _ _› (by first | omega | (simp; omega) | (simp; done))))))⟩
    | true =>
      cases y2 : inB to_ 0 1000000 with
      | false =>
        have HA := Lib.hid (fun W => isDay_val y1 W)
        have HB := Lib.hid (fun W => isDay_val y2 W)
        have HT : Hid (tstB l ⟨7, wh, st, fr, to_⟩ = false) := (by simp [tstB, y2] : tstB l ⟨7, wh, st, fr, to_⟩ = false)
        clear y1 y2
        (go_enter Tryz.func75, Tryz.ntmps75; go_wp2_with (first | (go_at_call 36; (with_reducible refine (HB.out _).mono ?_); rintro _ _ ⟨rfl, rfl⟩) | (go_at_call 36; (with_reducible refine (HA.out _).mono ?_); rintro _ _ ⟨rfl, rfl⟩)); go_ret)
        exact ⟨ret_bool HT.out.symm, by (repeat (first | exact Below.refl _ _ | assumption | (refine Below.alloc ?_ (by first | omega | (simp; omega) | (simp; done)) _) | (refine Below.setCell ?_ (by first | omega | (simp; omega) | (simp; done)) _) | (refine Below.drew ?_) | (refine belowN ?_ _) | (refine Below.trans ?_ (Below.mono ‹Below _ _ _› (by first | omega | (simp; omega) | (simp; done))))))⟩
      | true =>
        have HA := Lib.hid (fun W => isDay_val y1 W)
        have HB := Lib.hid (fun W => isDay_val y2 W)
        have HT : Hid (tstB l ⟨7, wh, st, fr, to_⟩ = (wh == 0 && subB st 0)) := (by simp [tstB, y1, y2] : tstB l ⟨7, wh, st, fr, to_⟩ = _)
        clear y1 y2
        cases z1 : (wh == 0) <;> cases z4 : (bits BinOp.andNot IntKind.u64 st 0 == 0) <;> (go_enter Tryz.func75, Tryz.ntmps75; go_wp2_with (first | (go_at_call 36; (with_reducible refine (HB.out _).mono ?_); rintro _ _ ⟨rfl, rfl⟩) | (go_at_call 36; (with_reducible refine (HA.out _).mono ?_); rintro _ _ ⟨rfl, rfl⟩)); go_ret) <;> exact ⟨ret_bool (by rw [HT.out]; simp [subB, z1, z4]), by (repeat (first | exact Below.refl _ _ | assumption | (refine Below.alloc ?_ (by first | omega | (simp; omega) | (simp; done)) _) | (refine Below.setCell ?_ (by first | omega | (simp; omega) | (simp; done)) _) | (refine Below.drew ?_) | (refine belowN ?_ _) | (refine Below.trans ?_ (Below.mono ‹Below _ _ _› (by first | omega | (simp; omega) | (simp; done))))))⟩
  have hT : tstB l ⟨kd, wh, st, fr, to_⟩ = false := by simp [tstB, h1, h2, h3, h4, h5, h6, h7]
  have HT := Lib.hid hT
  clear hT hr
  have k1 : (kd == 1) = false := by simpa using h1
  have k2 : (kd == 2) = false := by simpa using h2
  have k3 : (kd == 3) = false := by simpa using h3
  have k4 : (kd == 4) = false := by simpa using h4
  have k5 : (kd == 5) = false := by simpa using h5
  have k6 : (kd == 6) = false := by simpa using h6
  have k7 : (kd == 7) = false := by simpa using h7
  (go_enter Tryz.func75, Tryz.ntmps75; go_wp2_with (first | (go_at_call 98; (with_reducible refine (upto12_any _).mono ?_); rintro _ _ ⟨rfl, rfl⟩) | (go_at_call 98; (with_reducible refine (upto31_any _).mono ?_); rintro _ _ ⟨rfl, rfl⟩)); go_ret)
  exact ⟨ret_bool HT.out.symm, by (repeat (first | exact Below.refl _ _ | assumption | (refine Below.alloc ?_ (by first | omega | (simp; omega) | (simp; done)) _) | (refine Below.setCell ?_ (by first | omega | (simp; omega) | (simp; done)) _) | (refine Below.drew ?_) | (refine belowN ?_ _) | (refine Below.trans ?_ (Below.mono ‹Below _ _ _› (by first | omega | (simp; omega) | (simp; done))))))⟩
end Go.Proofs.YtfbnllmmoaialaaGreat

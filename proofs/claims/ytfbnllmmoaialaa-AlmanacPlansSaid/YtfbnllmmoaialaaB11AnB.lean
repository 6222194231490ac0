/- almanac: upto, isSpan, isTest. -/
import Derived.Test.YtfbnllmmoaialaaAm
import Derived.Test.YtfbnllmmoaialaaB09Ak
namespace Go.Proofs.Ytfbnllmmoaialaa
open Go.RowKit

theorem upto12_any (w : World) : Calls Try.prog 128 #[.int .i64 12] w fun e w' => e = .returned (.int .u64 8190) ∧ w = w' := by
  go_enter Try.func128, Try.ntmps128
  go_wp2
  go_ret
  exact ⟨rfl, rfl⟩
theorem upto31_any (w : World) : Calls Try.prog 128 #[.int .i64 31] w fun e w' => e = .returned (.int .u64 4294967294) ∧ w = w' := by
  go_enter Try.func128, Try.ntmps128
  go_wp2
  go_ret
  exact ⟨rfl, rfl⟩
/-- days that can be looked through -/
def spanB (a b : Int) : Bool := inB a 0 1000000 && inB b 0 1000000 && inB (b - a) 0 4000
theorem isSpan_any (a b : Int) (w : World) : Calls Try.prog 60 #[.int .i64 a, .int .i64 b] w fun e w' => e = .returned (.bool (spanB a b)) ∧ Below w.heap.size w w' := by
  cases h1 : inB a 0 1000000 with
  | false =>
    have HA := Lib.hid (fun W => isDay_val h1 W)
    have HT : Hid (spanB a b = false) := (by simp [spanB, h1] : spanB a b = false)
    clear h1
    go_enter Try.func60, Try.ntmps60
    go_wp2_with (go_at_call 68; (with_reducible refine (HA.out _).mono ?_); rintro _ _ ⟨rfl, rfl⟩)
    go_ret
    exact ⟨ret_bool HT.out.symm, by (repeat (first | exact Below.refl _ _ | assumption | (refine Below.alloc ?_ (by first | omega | (simp; omega) | (simp; done)) _) | (refine Below.setCell ?_ (by first | omega | (simp; omega) | (simp; done)) _) | (refine Below.drew ?_) | (refine belowN ?_ _) | (refine Below.trans ?_ (Below.mono ‹Below _ _ _› (by first | omega | (simp; omega) | (simp; done))))))⟩
  | true =>
    have a1 := inB_iff.1 h1
    cases h2 : inB b 0 1000000 with
    | false =>
      have HA := Lib.hid (fun W => isDay_val h1 W)
      have HB := Lib.hid (fun W => isDay_val h2 W)
      have HT : Hid (spanB a b = false) := (by simp [spanB, h2] : spanB a b = false)
      clear h1 h2
      go_enter Try.func60, Try.ntmps60
      go_wp2_with (first | (go_at_call 68; (with_reducible refine (HB.out _).mono ?_); rintro _ _ ⟨rfl, rfl⟩) | (go_at_call 68; (with_reducible refine (HA.out _).mono ?_); rintro _ _ ⟨rfl, rfl⟩))
      go_ret
      exact ⟨ret_bool HT.out.symm, by (repeat (first | exact Below.refl _ _ | assumption | (refine Below.alloc ?_ (by first | omega | (simp; omega) | (simp; done)) _) | (refine Below.setCell ?_ (by first | omega | (simp; omega) | (simp; done)) _) | (refine Below.drew ?_) | (refine belowN ?_ _) | (refine Below.trans ?_ (Below.mono ‹Below _ _ _› (by first | omega | (simp; omega) | (simp; done))))))⟩
    | true =>
      have a2 := inB_iff.1 h2
      have HA := Lib.hid (fun W => isDay_val h1 W)
      have HB := Lib.hid (fun W => isDay_val h2 W)
      have HT : Hid (spanB a b = inB (b - a) 0 4000) := (by simp [spanB, h1, h2] : spanB a b = inB (b - a) 0 4000)
      have w1 : IntKind.i64.wrap (b - a) = b - a := IntWalk.i64_in _ ⟨by omega, by omega⟩
      clear h1 h2
      go_enter Try.func60, Try.ntmps60
      go_wp2_with (first | (go_at_call 68; (with_reducible refine (HB.out _).mono ?_); rintro _ _ ⟨rfl, rfl⟩) | (go_at_call 68; (with_reducible refine (HA.out _).mono ?_); rintro _ _ ⟨rfl, rfl⟩) | (go_at_call 61; refine (within_any _ _ _ _).mono ?_; rintro _ _ ⟨rfl, rfl⟩))
      go_ret
      exact ⟨ret_bool HT.out.symm, by (repeat (first | exact Below.refl _ _ | assumption | (refine Below.alloc ?_ (by first | omega | (simp; omega) | (simp; done)) _) | (refine Below.setCell ?_ (by first | omega | (simp; omega) | (simp; done)) _) | (refine Below.drew ?_) | (refine belowN ?_ _) | (refine Below.trans ?_ (Below.mono ‹Below _ _ _› (by first | omega | (simp; omega) | (simp; done))))))⟩
/-- a set has no number but those of another one -/
def subB (x m : Int) : Bool := bits BinOp.andNot IntKind.u64 x m == 0
/-- a test is valid -/
def tstB (l : List Cyc) (t : DTs) : Bool :=
  if t.kind = 1 then inB t.which 0 (l.length - 1) && t.fr == 0 && t.to_ == 0 && (match l[t.which.toNat]? with | some c => subB t.set (18446744073709551615 / 2 ^ (64 - c.l).toNat) | none => false)
  else if t.kind = 2 ∨ t.kind = 4 then t.which == 0 && t.fr == 0 && t.to_ == 0 && subB t.set 8190
  else if t.kind = 3 ∨ t.kind = 5 then t.which == 0 && t.fr == 0 && t.to_ == 0 && subB t.set 4294967294
  else if t.kind = 6 then t.which == 0 && t.fr == 0 && t.to_ == 0 && subB t.set 0
  else if t.kind = 7 then inB t.fr 0 1000000 && inB t.to_ 0 1000000 && t.which == 0 && subB t.set 0
  else false
end Go.Proofs.Ytfbnllmmoaialaa
namespace Go.Proofs.Ytfbnllmmoaialaa
open Go.RowKit

set_option maxRecDepth 100000 in
set_option maxHeartbeats 4000000 in
theorem isTest1_any (A : Option Addr) (c : Nat) (l : List Cyc) (e b u d p f m y s k : Int) (wh st fr to_ : Int) (w : World) (hl : l.length ≤ 8) (hc : ∀ x ∈ l, cycB x = true) (hs : 0 ≤ st ∧ st < 18446744073709551616) (hr : Sl Cyc.cells 2 w w.heap.size A l) :
    Calls Try.prog 121 #[.agg #[.slice A l.length c, .int .i64 e, .int .i64 b, .int .i64 u, .int .i64 d, .int .i64 p, .int .i64 f, .int .i64 m, .int .i64 y, .int .i64 s, .int .i64 k], .agg #[.int .i64 1, .int .i64 wh, .int .u64 st, .int .i64 fr, .int .i64 to_]] w fun en w' => en = .returned (.bool (tstB l ⟨1, wh, st, fr, to_⟩)) ∧ Below w.heap.size w w' := by
  have v0 : IntKind.i64.wrap ((l.length : Int) - 1) = (l.length : Int) - 1 := IntWalk.i64_in _ ⟨by omega, by omega⟩
  cases y1 : inB wh 0 ((l.length : Int) - 1) with
  | false =>
    have HW := Lib.hid (fun W => within_val y1 W)
    have HT : Hid (tstB l ⟨1, wh, st, fr, to_⟩ = false) := (by simp [tstB, y1] : tstB l ⟨1, wh, st, fr, to_⟩ = false)
    clear y1 hr
    go_enter Try.func121, Try.ntmps121
    go_wp2_with (go_at_call 61; (with_reducible refine (HW.out _).mono ?_); rintro _ _ ⟨rfl, rfl⟩)
    go_ret
    exact ⟨ret_bool HT.out.symm, by (repeat (first | exact Below.refl _ _ | assumption | (refine Below.alloc ?_ (by first | omega | (simp; omega) | (simp; done)) _) | (refine Below.setCell ?_ (by first | omega | (simp; omega) | (simp; done)) _) | (refine Below.drew ?_) | (refine belowN ?_ _) | (refine Below.trans ?_ (Below.mono ‹Below _ _ _› (by first | omega | (simp; omega) | (simp; done))))))⟩
  | true =>
    have HW := Lib.hid (fun W => within_val y1 W)
    obtain ⟨a1, a2⟩ := inB_iff.1 y1
    obtain ⟨n, rfl⟩ := Int.eq_ofNat_of_zero_le a1
    have hn : n < l.length := by omega
    obtain ⟨ab, ao, rfl, hblk, hcell⟩ := hr.at_ (fun _ => rfl) hn
    have hq := hc _ (List.getElem_mem hn)
    have HE : ∀ q : Cyc, q = l[n] → Hid (tstB l ⟨1, (n : Int), st, fr, to_⟩ = (fr == 0 && to_ == 0 && subB st (18446744073709551615 / 2 ^ (64 - q.l).toNat))) := fun q hq => (by
      have h1 : l[(n : Int).toNat]? = some q := by rw [hq]; simp [List.getElem?_eq_getElem hn]
      simp only [tstB, y1, if_true, Bool.true_and, h1] : tstB l ⟨1, (n : Int), st, fr, to_⟩ = _)
    obtain ⟨q, hqe⟩ : ∃ q, q = l[n] := ⟨_, rfl⟩
    have HT := HE q hqe
    rw [← hqe] at hq hcell
    obtain ⟨ql, qs⟩ := q
    have e0 : w.cell? ⟨ab, ao + n * 2, none⟩ = some (.int .i64 ql) := hcell 0 _ rfl
    obtain ⟨⟨l1, l2⟩, -⟩ := cycB_iff.1 hq
    simp only at l1 l2 HT
    obtain ⟨mm, hmm⟩ : ∃ x : Nat, (64 : Int) - ql = x := Int.eq_ofNat_of_zero_le (by omega)
    have v1 : IntKind.i64.wrap (64 - ql) = (mm : Int) := by rw [hmm]; exact IntWalk.i64_in _ ⟨by omega, by omega⟩
    have hm64 : mm < 64 := by omega
    rw [hmm, Int.toNat_natCast] at HT
    have k1 : (n : Int) < (l.length : Int) := by omega
    clear y1 hr hcell HE hqe hq hmm hc
    cases z2 : (fr == 0) with
    | false =>
      go_enter Try.func121, Try.ntmps121
      go_wp2_with (go_at_call 61; (with_reducible refine (HW.out _).mono ?_); rintro _ _ ⟨rfl, rfl⟩)
      go_ret
      exact ⟨ret_bool (by rw [HT.out, z2]; rfl), by (repeat (first | exact Below.refl _ _ | assumption | (refine Below.alloc ?_ (by first | omega | (simp; omega) | (simp; done)) _) | (refine Below.setCell ?_ (by first | omega | (simp; omega) | (simp; done)) _) | (refine Below.drew ?_) | (refine belowN ?_ _) | (refine Below.trans ?_ (Below.mono ‹Below _ _ _› (by first | omega | (simp; omega) | (simp; done))))))⟩
    | true =>
      cases z3 : (to_ == 0) with
      | false =>
        go_enter Try.func121, Try.ntmps121
        go_wp2_with (go_at_call 61; (with_reducible refine (HW.out _).mono ?_); rintro _ _ ⟨rfl, rfl⟩)
        go_ret
        exact ⟨ret_bool (by rw [HT.out, z2, z3]; rfl), by (repeat (first | exact Below.refl _ _ | assumption | (refine Below.alloc ?_ (by first | omega | (simp; omega) | (simp; done)) _) | (refine Below.setCell ?_ (by first | omega | (simp; omega) | (simp; done)) _) | (refine Below.drew ?_) | (refine belowN ?_ _) | (refine Below.trans ?_ (Below.mono ‹Below _ _ _› (by first | omega | (simp; omega) | (simp; done))))))⟩
      | true =>
        go_enter Try.func121, Try.ntmps121
        go_wp2_with (go_at_call 61; (with_reducible refine (HW.out _).mono ?_); rintro _ _ ⟨rfl, rfl⟩)
        go_ret
        exact ⟨ret_bool (by rw [HT.out, z2, z3]; rfl), by (repeat (first | exact Below.refl _ _ | assumption | (refine Below.alloc ?_ (by first | omega | (simp; omega) | (simp; done)) _) | (refine Below.setCell ?_ (by first | omega | (simp; omega) | (simp; done)) _) | (refine Below.drew ?_) | (refine belowN ?_ _) | (refine Below.trans ?_ (Below.mono ‹Below _ _ _› (by first | omega | (simp; omega) | (simp; done))))))⟩
end Go.Proofs.Ytfbnllmmoaialaa
namespace Go.Proofs.Ytfbnllmmoaialaa
open Go.RowKit

set_option maxRecDepth 100000 in
set_option maxHeartbeats 4000000 in
theorem isTest_any (A : Option Addr) (c : Nat) (l : List Cyc) (e b u d p f m y s k : Int) (kd wh st fr to_ : Int) (w : World) (hl : l.length ≤ 8) (hc : ∀ x ∈ l, cycB x = true) (hs : 0 ≤ st ∧ st < 18446744073709551616) (hr : Sl Cyc.cells 2 w w.heap.size A l) :
    Calls Try.prog 121 #[.agg #[.slice A l.length c, .int .i64 e, .int .i64 b, .int .i64 u, .int .i64 d, .int .i64 p, .int .i64 f, .int .i64 m, .int .i64 y, .int .i64 s, .int .i64 k], .agg #[.int .i64 kd, .int .i64 wh, .int .u64 st, .int .i64 fr, .int .i64 to_]] w fun en w' => en = .returned (.bool (tstB l ⟨kd, wh, st, fr, to_⟩)) ∧ Below w.heap.size w w' := by
  by_cases h1 : kd = 1
  · subst h1; exact isTest1_any A c l e b u d p f m y s k wh st fr to_ w hl hc hs hr
  by_cases h2 : kd = 2
  · subst h2
    clear hr
    cases z1 : (wh == 0) with
    | false => ((go_enter Try.func121, Try.ntmps121; go_wp2_with (first | (go_at_call 128; (with_reducible refine (upto12_any _).mono ?_); rintro _ _ ⟨rfl, rfl⟩) | (go_at_call 128; (with_reducible refine (upto31_any _).mono ?_); rintro _ _ ⟨rfl, rfl⟩)); go_ret); exact ⟨ret_bool (by simp [tstB, z1]), by (repeat (first | exact Below.refl _ _ | assumption | (refine Below.alloc ?_ (by first | omega | (simp; omega) | (simp; done)) _) | (refine Below.setCell ?_ (by first | omega | (simp; omega) | (simp; done)) _) | (refine Below.drew ?_) | (refine belowN ?_ _) | (refine Below.trans ?_ (Below.mono ‹Below _ _ _› (by first | omega | (simp; omega) | (simp; done))))))⟩)
    | true =>
      cases z2 : (fr == 0) with
      | false => ((go_enter Try.func121, Try.ntmps121; go_wp2_with (first | (go_at_call 128; (with_reducible refine (upto12_any _).mono ?_); rintro _ _ ⟨rfl, rfl⟩) | (go_at_call 128; (with_reducible refine (upto31_any _).mono ?_); rintro _ _ ⟨rfl, rfl⟩)); go_ret); exact ⟨ret_bool (by simp [tstB, z2]), by (repeat (first | exact Below.refl _ _ | assumption | (refine Below.alloc ?_ (by first | omega | (simp; omega) | (simp; done)) _) | (refine Below.setCell ?_ (by first | omega | (simp; omega) | (simp; done)) _) | (refine Below.drew ?_) | (refine belowN ?_ _) | (refine Below.trans ?_ (Below.mono ‹Below _ _ _› (by first | omega | (simp; omega) | (simp; done))))))⟩)
      | true =>
        cases z3 : (to_ == 0) with
        | false => ((go_enter Try.func121, Try.ntmps121; go_wp2_with (first | (go_at_call 128; (with_reducible refine (upto12_any _).mono ?_); rintro _ _ ⟨rfl, rfl⟩) | (go_at_call 128; (with_reducible refine (upto31_any _).mono ?_); rintro _ _ ⟨rfl, rfl⟩)); go_ret); exact ⟨ret_bool (by simp [tstB, z3]), by (repeat (first | exact Below.refl _ _ | assumption | (refine Below.alloc ?_ (by first | omega | (simp; omega) | (simp; done)) _) | (refine Below.setCell ?_ (by first | omega | (simp; omega) | (simp; done)) _) | (refine Below.drew ?_) | (refine belowN ?_ _) | (refine Below.trans ?_ (Below.mono ‹Below _ _ _› (by first | omega | (simp; omega) | (simp; done))))))⟩)
        | true =>
          cases z4 : (bits BinOp.andNot IntKind.u64 st 8190 == 0) <;> (go_enter Try.func121, Try.ntmps121; go_wp2_with (first | (go_at_call 128; (with_reducible refine (upto12_any _).mono ?_); rintro _ _ ⟨rfl, rfl⟩) | (go_at_call 128; (with_reducible refine (upto31_any _).mono ?_); rintro _ _ ⟨rfl, rfl⟩)); go_ret) <;> exact ⟨ret_bool (by simp [tstB, subB, z1, z2, z3, z4]), by (repeat (first | exact Below.refl _ _ | assumption | (refine Below.alloc ?_ (by first | omega | (simp; omega) | (simp; done)) _) | (refine Below.setCell ?_ (by first | omega | (simp; omega) | (simp; done)) _) | (refine Below.drew ?_) | (refine belowN ?_ _) | (refine Below.trans ?_ (Below.mono ‹Below _ _ _› (by first | omega | (simp; omega) | (simp; done))))))⟩
  by_cases h3 : kd = 3
  · subst h3
    clear hr
    cases z1 : (wh == 0) with
    | false => ((go_enter Try.func121, Try.ntmps121; go_wp2_with (first | (go_at_call 128; (with_reducible refine (upto12_any _).mono ?_); rintro _ _ ⟨rfl, rfl⟩) | (go_at_call 128; (with_reducible refine (upto31_any _).mono ?_); rintro _ _ ⟨rfl, rfl⟩)); go_ret); exact ⟨ret_bool (by simp [tstB, z1]), by (repeat (first | exact Below.refl _ _ | assumption | (refine Below.alloc ?_ (by first | omega | (simp; omega) | (simp; done)) _) | (refine Below.setCell ?_ (by first | omega | (simp; omega) | (simp; done)) _) | (refine Below.drew ?_) | (refine belowN ?_ _) | (refine Below.trans ?_ (Below.mono ‹Below _ _ _› (by first | omega | (simp; omega) | (simp; done))))))⟩)
    | true =>
      cases z2 : (fr == 0) with
      | false => ((go_enter Try.func121, Try.ntmps121; go_wp2_with (first | (go_at_call 128; (with_reducible refine (upto12_any _).mono ?_); rintro _ _ ⟨rfl, rfl⟩) | (go_at_call 128; (with_reducible refine (upto31_any _).mono ?_); rintro _ _ ⟨rfl, rfl⟩)); go_ret); exact ⟨ret_bool (by simp [tstB, z2]), by (repeat (first | exact Below.refl _ _ | assumption | (refine Below.alloc ?_ (by first | omega | (simp; omega) | (simp; done)) _) | (refine Below.setCell ?_ (by first | omega | (simp; omega) | (simp; done)) _) | (refine Below.drew ?_) | (refine belowN ?_ _) | (refine Below.trans ?_ (Below.mono ‹Below _ _ _› (by first | omega | (simp; omega) | (simp; done))))))⟩)
      | true =>
        cases z3 : (to_ == 0) with
        | false => ((go_enter Try.func121, Try.ntmps121; go_wp2_with (first | (go_at_call 128; (with_reducible refine (upto12_any _).mono ?_); rintro _ _ ⟨rfl, rfl⟩) | (go_at_call 128; (with_reducible refine (upto31_any _).mono ?_); rintro _ _ ⟨rfl, rfl⟩)); go_ret); exact ⟨ret_bool (by simp [tstB, z3]), by (repeat (first | exact Below.refl _ _ | assumption | (refine Below.alloc ?_ (by first | omega | (simp; omega) | (simp; done)) _) | (refine Below.setCell ?_ (by first | omega | (simp; omega) | (simp; done)) _) | (refine Below.drew ?_) | (refine belowN ?_ _) | (refine Below.trans ?_ (Below.mono ‹Below _ _ _› (by first | omega | (simp; omega) | (simp; done))))))⟩)
        | true =>
          cases z4 : (bits BinOp.andNot IntKind.u64 st 4294967294 == 0) <;> (go_enter Try.func121, Try.ntmps121; go_wp2_with (first | (go_at_call 128; (with_reducible refine (upto12_any _).mono ?_); rintro _ _ ⟨rfl, rfl⟩) | (go_at_call 128; (with_reducible refine (upto31_any _).mono ?_); rintro _ _ ⟨rfl, rfl⟩)); go_ret) <;> exact ⟨ret_bool (by simp [tstB, subB, z1, z2, z3, z4]), by (repeat (first | exact Below.refl _ _ | assumption | (refine Below.alloc ?_ (by first | omega | (simp; omega) | (simp; done)) _) | (refine Below.setCell ?_ (by first | omega | (simp; omega) | (simp; done)) _) | (refine Below.drew ?_) | (refine belowN ?_ _) | (refine Below.trans ?_ (Below.mono ‹Below _ _ _› (by first | omega | (simp; omega) | (simp; done))))))⟩
  by_cases h4 : kd = 4
  · subst h4
    clear hr
    cases z1 : (wh == 0) with
    | false => ((go_enter Try.func121, Try.ntmps121; go_wp2_with (first | (go_at_call 128; (with_reducible refine (upto12_any _).mono ?_); rintro _ _ ⟨rfl, rfl⟩) | (go_at_call 128; (with_reducible refine (upto31_any _).mono ?_); rintro _ _ ⟨rfl, rfl⟩)); go_ret); exact ⟨ret_bool (by simp [tstB, z1]), by (repeat (first | exact Below.refl _ _ | assumption | (refine Below.alloc ?_ (by first | omega | (simp; omega) | (simp; done)) _) | (refine Below.setCell ?_ (by first | omega | (simp; omega) | (simp; done)) _) | (refine Below.drew ?_) | (refine belowN ?_ _) | (refine Below.trans ?_ (Below.mono ‹Below _ _ _› (by first | omega | (simp; omega) | (simp; done))))))⟩)
    | true =>
      cases z2 : (fr == 0) with
      | false => ((go_enter Try.func121, Try.ntmps121; go_wp2_with (first | (go_at_call 128; (with_reducible refine (upto12_any _).mono ?_); rintro _ _ ⟨rfl, rfl⟩) | (go_at_call 128; (with_reducible refine (upto31_any _).mono ?_); rintro _ _ ⟨rfl, rfl⟩)); go_ret); exact ⟨ret_bool (by simp [tstB, z2]), by (repeat (first | exact Below.refl _ _ | assumption | (refine Below.alloc ?_ (by first | omega | (simp; omega) | (simp; done)) _) | (refine Below.setCell ?_ (by first | omega | (simp; omega) | (simp; done)) _) | (refine Below.drew ?_) | (refine belowN ?_ _) | (refine Below.trans ?_ (Below.mono ‹Below _ _ _› (by first | omega | (simp; omega) | (simp; done))))))⟩)
      | true =>
        cases z3 : (to_ == 0) with
        | false => ((go_enter Try.func121, Try.ntmps121; go_wp2_with (first | (go_at_call 128; (with_reducible refine (upto12_any _).mono ?_); rintro _ _ ⟨rfl, rfl⟩) | (go_at_call 128; (with_reducible refine (upto31_any _).mono ?_); rintro _ _ ⟨rfl, rfl⟩)); go_ret); exact ⟨ret_bool (by simp [tstB, z3]), by (repeat (first | exact Below.refl _ _ | assumption | (refine Below.alloc ?_ (by first | omega | (simp; omega) | (simp; done)) _) | (refine Below.setCell ?_ (by first | omega | (simp; omega) | (simp; done)) _) | (refine Below.drew ?_) | (refine belowN ?_ _) | (refine Below.trans ?_ (Below.mono ‹Below _ _ _› (by first | omega | (simp; omega) | (simp; done))))))⟩)
        | true =>
          cases z4 : (bits BinOp.andNot IntKind.u64 st 8190 == 0) <;> (go_enter Try.func121, Try.ntmps121; go_wp2_with (first | (go_at_call 128; (with_reducible refine (upto12_any _).mono ?_); rintro _ _ ⟨rfl, rfl⟩) | (go_at_call 128; (with_reducible refine (upto31_any _).mono ?_); rintro _ _ ⟨rfl, rfl⟩)); go_ret) <;> exact ⟨ret_bool (by simp [tstB, subB, z1, z2, z3, z4]), by (repeat (first | exact Below.refl _ _ | assumption | (refine Below.alloc ?_ (by first | omega | (simp; omega) | (simp; done)) _) | (refine Below.setCell ?_ (by first | omega | (simp; omega) | (simp; done)) _) | (refine Below.drew ?_) | (refine belowN ?_ _) | (refine Below.trans ?_ (Below.mono ‹Below _ _ _› (by first | omega | (simp; omega) | (simp; done))))))⟩
  by_cases h5 : kd = 5
  · subst h5
    clear hr
    cases z1 : (wh == 0) with
    | false => ((go_enter Try.func121, Try.ntmps121; go_wp2_with (first | (go_at_call 128; (with_reducible refine (upto12_any _).mono ?_); rintro _ _ ⟨rfl, rfl⟩) | (go_at_call 128; (with_reducible refine (upto31_any _).mono ?_); rintro _ _ ⟨rfl, rfl⟩)); go_ret); exact ⟨ret_bool (by simp [tstB, z1]), by (repeat (first | exact Below.refl _ _ | assumption | (refine Below.alloc ?_ (by first | omega | (simp; omega) | (simp; done)) _) | (refine Below.setCell ?_ (by first | omega | (simp; omega) | (simp; done)) _) | (refine Below.drew ?_) | (refine belowN ?_ _) | (refine Below.trans ?_ (Below.mono ‹Below _ _ _› (by first | omega | (simp; omega) | (simp; done))))))⟩)
    | true =>
      cases z2 : (fr == 0) with
      | false => ((go_enter Try.func121, Try.ntmps121; go_wp2_with (first | (go_at_call 128; (with_reducible refine (upto12_any _).mono ?_); rintro _ _ ⟨rfl, rfl⟩) | (go_at_call 128; (with_reducible refine (upto31_any _).mono ?_); rintro _ _ ⟨rfl, rfl⟩)); go_ret); exact ⟨ret_bool (by simp [tstB, z2]), by (repeat (first | exact Below.refl _ _ | assumption | (refine Below.alloc ?_ (by first | omega | (simp; omega) | (simp; done)) _) | (refine Below.setCell ?_ (by first | omega | (simp; omega) | (simp; done)) _) | (refine Below.drew ?_) | (refine belowN ?_ _) | (refine Below.trans ?_ (Below.mono ‹Below _ _ _› (by first | omega | (simp; omega) | (simp; done))))))⟩)
      | true =>
        cases z3 : (to_ == 0) with
        | false => ((go_enter Try.func121, Try.ntmps121; go_wp2_with (first | (go_at_call 128; (with_reducible refine (upto12_any _).mono ?_); rintro _ _ ⟨rfl, rfl⟩) | (go_at_call 128; (with_reducible refine (upto31_any _).mono ?_); rintro _ _ ⟨rfl, rfl⟩)); go_ret); exact ⟨ret_bool (by simp [tstB, z3]), by (repeat (first | exact Below.refl _ _ | assumption | (refine Below.alloc ?_ (by first | omega | (simp; omega) | (simp; done)) _) | (refine Below.setCell ?_ (by first | omega | (simp; omega) | (simp; done)) _) | (refine Below.drew ?_) | (refine belowN ?_ _) | (refine Below.trans ?_ (Below.mono ‹Below _ _ _› (by first | omega | (simp; omega) | (simp; done))))))⟩)
        | true =>
          cases z4 : (bits BinOp.andNot IntKind.u64 st 4294967294 == 0) <;> (go_enter Try.func121, Try.ntmps121; go_wp2_with (first | (go_at_call 128; (with_reducible refine (upto12_any _).mono ?_); rintro _ _ ⟨rfl, rfl⟩) | (go_at_call 128; (with_reducible refine (upto31_any _).mono ?_); rintro _ _ ⟨rfl, rfl⟩)); go_ret) <;> exact ⟨ret_bool (by simp [tstB, subB, z1, z2, z3, z4]), by (repeat (first | exact Below.refl _ _ | assumption | (refine Below.alloc ?_ (by first | omega | (simp; omega) | (simp; done)) _) | (refine Below.setCell ?_ (by first | omega | (simp; omega) | (simp; done)) _) | (refine Below.drew ?_) | (refine belowN ?_ _) | (refine Below.trans ?_ (Below.mono ‹Below _ _ _› (by first | omega | (simp; omega) | (simp; done))))))⟩
  by_cases h6 : kd = 6
  · subst h6
    clear hr
    cases z1 : (wh == 0) with
    | false => ((go_enter Try.func121, Try.ntmps121; go_wp2_with (first | (go_at_call 128; (with_reducible refine (upto12_any _).mono ?_); rintro _ _ ⟨rfl, rfl⟩) | (go_at_call 128; (with_reducible refine (upto31_any _).mono ?_); rintro _ _ ⟨rfl, rfl⟩)); go_ret); exact ⟨ret_bool (by simp [tstB, z1]), by (repeat (first | exact Below.refl _ _ | assumption | (refine Below.alloc ?_ (by first | omega | (simp; omega) | (simp; done)) _) | (refine Below.setCell ?_ (by first | omega | (simp; omega) | (simp; done)) _) | (refine Below.drew ?_) | (refine belowN ?_ _) | (refine Below.trans ?_ (Below.mono ‹Below _ _ _› (by first | omega | (simp; omega) | (simp; done))))))⟩)
    | true =>
      cases z2 : (fr == 0) with
      | false => ((go_enter Try.func121, Try.ntmps121; go_wp2_with (first | (go_at_call 128; (with_reducible refine (upto12_any _).mono ?_); rintro _ _ ⟨rfl, rfl⟩) | (go_at_call 128; (with_reducible refine (upto31_any _).mono ?_); rintro _ _ ⟨rfl, rfl⟩)); go_ret); exact ⟨ret_bool (by simp [tstB, z2]), by (repeat (first | exact Below.refl _ _ | assumption | (refine Below.alloc ?_ (by first | omega | (simp; omega) | (simp; done)) _) | (refine Below.setCell ?_ (by first | omega | (simp; omega) | (simp; done)) _) | (refine Below.drew ?_) | (refine belowN ?_ _) | (refine Below.trans ?_ (Below.mono ‹Below _ _ _› (by first | omega | (simp; omega) | (simp; done))))))⟩)
      | true =>
        cases z3 : (to_ == 0) with
        | false => ((go_enter Try.func121, Try.ntmps121; go_wp2_with (first | (go_at_call 128; (with_reducible refine (upto12_any _).mono ?_); rintro _ _ ⟨rfl, rfl⟩) | (go_at_call 128; (with_reducible refine (upto31_any _).mono ?_); rintro _ _ ⟨rfl, rfl⟩)); go_ret); exact ⟨ret_bool (by simp [tstB, z3]), by (repeat (first | exact Below.refl _ _ | assumption | (refine Below.alloc ?_ (by first | omega | (simp; omega) | (simp; done)) _) | (refine Below.setCell ?_ (by first | omega | (simp; omega) | (simp; done)) _) | (refine Below.drew ?_) | (refine belowN ?_ _) | (refine Below.trans ?_ (Below.mono ‹Below _ _ _› (by first | omega | (simp; omega) | (simp; done))))))⟩)
        | true =>
          cases z4 : (bits BinOp.andNot IntKind.u64 st 0 == 0) <;> (go_enter Try.func121, Try.ntmps121; go_wp2_with (first | (go_at_call 128; (with_reducible refine (upto12_any _).mono ?_); rintro _ _ ⟨rfl, rfl⟩) | (go_at_call 128; (with_reducible refine (upto31_any _).mono ?_); rintro _ _ ⟨rfl, rfl⟩)); go_ret) <;> exact ⟨ret_bool (by simp [tstB, subB, z1, z2, z3, z4]), by (repeat (first | exact Below.refl _ _ | assumption | (refine Below.alloc ?_ (by first | omega | (simp; omega) | (simp; done)) _) | (refine Below.setCell ?_ (by first | omega | (simp; omega) | (simp; done)) _) | (refine Below.drew ?_) | (refine belowN ?_ _) | (refine Below.trans ?_ (Below.mono ‹Below _ _ _› (by first | omega | (simp; omega) | (simp; done))))))⟩
  by_cases h7 : kd = 7
  · subst h7
    clear hr
    cases y1 : inB fr 0 1000000 with
    | false =>
      have HA := Lib.hid (fun W => isDay_val y1 W)
      have HT : Hid (tstB l ⟨7, wh, st, fr, to_⟩ = false) := (by simp [tstB, y1] : tstB l ⟨7, wh, st, fr, to_⟩ = false)
      clear y1
      (go_enter Try.func121, Try.ntmps121; go_wp2_with (first | (go_at_call 68; (with_reducible refine (HB.out _).mono ?_); rintro _ _ ⟨rfl, rfl⟩) | (go_at_call 68; (with_reducible refine (HA.out _).mono ?_); rintro _ _ ⟨rfl, rfl⟩)); go_ret)
      exact ⟨ret_bool HT.out.symm, by (repeat (first | exact Below.refl _ _ | assumption | (refine Below.alloc ?_ (by first | omega | (simp; omega) | (simp; done)) _) | (refine Below.setCell ?_ (by first | omega | (simp; omega) | (simp; done)) _) | (refine Below.drew ?_) | (refine belowN ?_ _) | (refine Below.trans ?_ (Below.mono ‹Below _ _ _› (by first | omega | (simp; omega) | (simp; done))))))⟩
    | true =>
      cases y2 : inB to_ 0 1000000 with
      | false =>
        have HA := Lib.hid (fun W => isDay_val y1 W)
        have HB := Lib.hid (fun W => isDay_val y2 W)
        have HT : Hid (tstB l ⟨7, wh, st, fr, to_⟩ = false) := (by simp [tstB, y2] : tstB l ⟨7, wh, st, fr, to_⟩ = false)
        clear y1 y2
        (go_enter Try.func121, Try.ntmps121; go_wp2_with (first | (go_at_call 68; (with_reducible refine (HB.out _).mono ?_); rintro _ _ ⟨rfl, rfl⟩) | (go_at_call 68; (with_reducible refine (HA.out _).mono ?_); rintro _ _ ⟨rfl, rfl⟩)); go_ret)
        exact ⟨ret_bool HT.out.symm, by (repeat (first | exact Below.refl _ _ | assumption | (refine Below.alloc ?_ (by first | omega | (simp; omega) | (simp; done)) _) | (refine Below.setCell ?_ (by first | omega | (simp; omega) | (simp; done)) _) | (refine Below.drew ?_) | (refine belowN ?_ _) | (refine Below.trans ?_ (Below.mono ‹Below _ _ _› (by first | omega | (simp; omega) | (simp; done))))))⟩
      | true =>
        have HA := Lib.hid (fun W => isDay_val y1 W)
        have HB := Lib.hid (fun W => isDay_val y2 W)
        have HT : Hid (tstB l ⟨7, wh, st, fr, to_⟩ = (wh == 0 && subB st 0)) := (by simp [tstB, y1, y2] : tstB l ⟨7, wh, st, fr, to_⟩ = _)
        clear y1 y2
        cases z1 : (wh == 0) <;> cases z4 : (bits BinOp.andNot IntKind.u64 st 0 == 0) <;> (go_enter Try.func121, Try.ntmps121; go_wp2_with (first | (go_at_call 68; (with_reducible refine (HB.out _).mono ?_); rintro _ _ ⟨rfl, rfl⟩) | (go_at_call 68; (with_reducible refine (HA.out _).mono ?_); rintro _ _ ⟨rfl, rfl⟩)); go_ret) <;> exact ⟨ret_bool (by rw [HT.out]; simp [subB, z1, z4]), by (repeat (first | exact Below.refl _ _ | assumption | (refine Below.alloc ?_ (by first | omega | (simp; omega) | (simp; done)) _) | (refine Below.setCell ?_ (by first | omega | (simp; omega) | (simp; done)) _) | (refine Below.drew ?_) | (refine belowN ?_ _) | (refine Below.trans ?_ (Below.mono ‹Below _ _ _› (by first | omega | (simp; omega) | (simp; done))))))⟩
  have hT : tstB l ⟨kd, wh, st, fr, to_⟩ = false := by simp [tstB, h1, h2, h3, h4, h5, h6, h7]
  have HT := Lib.hid hT
  clear hT hr
  have k1 : (kd == 1) = false := by simpa using h1
  have k2 : (kd == 2) = false := by simpa using h2
  have k3 : (kd == 3) = false := by simpa using h3
  have k4 : (kd == 4) = false := by simpa using h4
  have k5 : (kd == 5) = false := by simpa using h5
  have k6 : (kd == 6) = false := by simpa using h6
  have k7 : (kd == 7) = false := by simpa using h7
  (go_enter Try.func121, Try.ntmps121; go_wp2_with (first | (go_at_call 128; (with_reducible refine (upto12_any _).mono ?_); rintro _ _ ⟨rfl, rfl⟩) | (go_at_call 128; (with_reducible refine (upto31_any _).mono ?_); rintro _ _ ⟨rfl, rfl⟩)); go_ret)
  exact ⟨ret_bool HT.out.symm, by (repeat (first | exact Below.refl _ _ | assumption | (refine Below.alloc ?_ (by first | omega | (simp; omega) | (simp; done)) _) | (refine Below.setCell ?_ (by first | omega | (simp; omega) | (simp; done)) _) | (refine Below.drew ?_) | (refine belowN ?_ _) | (refine Below.trans ?_ (Below.mono ‹Below _ _ _› (by first | omega | (simp; omega) | (simp; done))))))⟩
end Go.Proofs.Ytfbnllmmoaialaa
namespace Go.Proofs.Ytfbnllmmoaialaa
open Go.RowKit

/-- an almanac lies in block b -/
structure AlmAt (W : World) (b : Nat) (x : Alm) : Prop where
  blk : Blk W b x.cells.toArray 28
  cyc : Sl Cyc.cells 2 W W.heap.size x.a x.cycles
theorem AlmAt.below {W W' : World} {b : Nat} {x : Alm} (h : AlmAt W b x) (hb : Below W.heap.size W W') : AlmAt W' b x := ⟨h.blk.below hb h.blk.lt, (h.cyc.below hb).more hb.size⟩
/-- the tests of a rule can be read -/
structure RulAt (W : World) (B : Nat) (r : DRl) : Prop where
  len : r.when_.length ≤ 1000000
  set : ∀ t ∈ r.when_, 0 ≤ t.set ∧ t.set < 18446744073709551616
  sl : Sl DTs.cells 5 W B r.wa r.when_
/-- rules can be read -/
structure RlsAt (W : World) (B : Nat) (A : Option Addr) (l : List DRl) : Prop where
  len : l.length ≤ 1000000
  sl : Sl DRl.cells 2 W B A l
  rul : ∀ r ∈ l, RulAt W B r
theorem RulAt.below {W W' : World} {B : Nat} {r : DRl} (h : RulAt W B r) (hb : Below B W W') : RulAt W' B r := ⟨h.len, h.set, h.sl.below hb⟩
theorem RulAt.more {W : World} {B B' : Nat} {r : DRl} (h : RulAt W B r) (hB : B ≤ B') : RulAt W B' r := ⟨h.len, h.set, h.sl.more hB⟩
theorem RlsAt.below {W W' : World} {B : Nat} {A : Option Addr} {l : List DRl} (h : RlsAt W B A l) (hb : Below B W W') : RlsAt W' B A l := ⟨h.len, h.sl.below hb, fun r hr => (h.rul r hr).below hb⟩
theorem RlsAt.more {W : World} {B B' : Nat} {A : Option Addr} {l : List DRl} (h : RlsAt W B A l) (hB : B ≤ B') : RlsAt W B' A l := ⟨h.len, h.sl.more hB, fun r hr => (h.rul r hr).more hB⟩
def badR (l : List Cyc) (r : DRl) : Bool := decide (6 < r.when_.length) || r.when_.any fun t => !tstB l t
/-- the error of rules -/
def chkE (l : List Cyc) (rs : List DRl) : Int := if 30 < rs.length then 5 else if rs.any (badR l) then 4 else 0
def bothE (x : Alm) (rs : List DRl) : Int := if almB x then chkE x.cycles rs else 2
theorem ent_checkG2 : Ent 120 := ent_of (fn := Try.f120) (by kernel_rfl) (by kernel_rfl) (by kernel_rfl)
theorem ent_checkG1 : Ent 119 := ent_of (fn := Try.f119) (by kernel_rfl) (by kernel_rfl) (by kernel_rfl)
set_option maxRecDepth 100000 in
theorem checkG2_any (B : Nat) (x : Alm) (t : DTs) (w : World) (hx : almB x = true) (hs : 0 ≤ t.set ∧ t.set < 18446744073709551616) (ha : AlmAt w B x) :
    Calls Try.prog 120 #[.agg #[.int .i64 t.kind, .int .i64 t.which, .int .u64 t.set, .int .i64 t.fr, .int .i64 t.to_], .pointer (some ⟨B, 0, none⟩)] w fun e w' => e = .returned (.bool (!tstB x.cycles t)) ∧ Below w.heap.size w w' := by
  obtain ⟨A, c, l, ⟨e, b, u⟩, ⟨d, p, f, m, y, s, k⟩⟩ := x
  obtain ⟨kd, wh, st, fr, to_⟩ := t
  simp only [almB, Bool.and_eq_true, decide_eq_true_eq, List.all_eq_true] at hx
  obtain ⟨⟨⟨hl, hc⟩, -⟩, -⟩ := hx
  have HV := Lib.hid (fun W (hW : Below w.heap.size w W) => isTest_any A c l e b u d p f m y s k kd wh st fr to_ W hl hc hs ((ha.cyc.below hW).more hW.size))
  have ga : Blk w B #[.slice A l.length c, .int .i64 e, .int .i64 b, .int .i64 u, .int .i64 d, .int .i64 p, .int .i64 f, .int .i64 m, .int .i64 y, .int .i64 s, .int .i64 k] 28 := ha.blk
  (have z0 := ga.cell 0; have z1 := ga.cell 1; have z2 := ga.cell 2; have z3 := ga.cell 3; have z4 := ga.cell 4; have z5 := ga.cell 5; have z6 := ga.cell 6; have z7 := ga.cell 7; have z8 := ga.cell 8; have z9 := ga.cell 9; have z10 := ga.cell 10; simp at z0 z1 z2 z3 z4 z5 z6 z7 z8 z9 z10)
  have hlt := ga.lt
  clear ga ha hc hs
  go_enter Try.func120, Try.ntmps120
  go_wp2_with (go_at_call 121; refine (HV.out _ (by (repeat (first | exact Below.refl _ _ | assumption | (refine Below.alloc ?_ (by first | omega | (simp; omega) | (simp; done)) _) | (refine Below.setCell ?_ (by first | omega | (simp; omega) | (simp; done)) _) | (refine Below.drew ?_) | (refine belowN ?_ _) | (refine Below.trans ?_ (Below.mono ‹Below _ _ _› (by first | omega | (simp; omega) | (simp; done)))))))).mono ?_; rintro _ W1 ⟨rfl, hb1⟩)
  go_ret
  exact ⟨rfl, bl2 (by (repeat (first | exact Below.refl _ _ | assumption | (refine Below.alloc ?_ (by first | omega | (simp; omega) | (simp; done)) _) | (refine Below.setCell ?_ (by first | omega | (simp; omega) | (simp; done)) _) | (refine Below.drew ?_) | (refine belowN ?_ _) | (refine Below.trans ?_ (Below.mono ‹Below _ _ _› (by first | omega | (simp; omega) | (simp; done))))))) hb1⟩
set_option maxRecDepth 100000 in
theorem checkG1_any (B : Nat) (x : Alm) (r : DRl) (w : World) (hx : almB x = true) (ha : AlmAt w B x) (hr : RulAt w w.heap.size r) :
    Calls Try.prog 119 #[.agg #[.slice r.wa r.when_.length r.wc, .bool r.allow], .pointer (some ⟨B, 0, none⟩)] w fun e w' => e = .returned (.bool (badR x.cycles r)) ∧ Below w.heap.size w w' := by
  have hlen := hr.len
  by_cases h6 : 6 < r.when_.length
  · have d1 : decide (6 < (r.when_.length : Int)) = true := by simp; omega
    have d1' : decide (6 < r.when_.length) = true := by simp; omega
    have HT : Hid (badR x.cycles r = true) := (by simp [badR, h6] : badR x.cycles r = true)
    clear hr ha
    go_enter Try.func119, Try.ntmps119
    go_wp2
    go_ret
    exact ⟨ret_bool HT.out.symm, by (repeat (first | exact Below.refl _ _ | assumption | (refine Below.alloc ?_ (by first | omega | (simp; omega) | (simp; done)) _) | (refine Below.setCell ?_ (by first | omega | (simp; omega) | (simp; done)) _) | (refine Below.drew ?_) | (refine belowN ?_ _) | (refine Below.trans ?_ (Below.mono ‹Below _ _ _› (by first | omega | (simp; omega) | (simp; done))))))⟩
  · have d1 : decide (6 < (r.when_.length : Int)) = false := by simp; omega
    have d1' : decide (6 < r.when_.length) = false := by simp; omega
    have HV := Lib.hid (fun W (hW : Below w.heap.size w W) => tany_any 120 #[.pointer (some ⟨B, 0, none⟩)] r.wa r.wc r.when_ (fun t => !tstB x.cycles t) W ent_checkG2 hr.len ((hr.below hW).more hW.size).sl (fun t ht W2 hW2 => checkG2_any B x t W2 hx (hr.set t ht) ((ha.below hW).below hW2)))
    obtain ⟨v, hv⟩ : ∃ v, v = r.when_.any fun t => !tstB x.cycles t := ⟨_, rfl⟩
    have HT : Hid (badR x.cycles r = v) := (by rw [hv]; simp [badR, h6] : badR x.cycles r = v)
    rw [← hv] at HV
    clear hr ha hv h6
    go_enter Try.func119, Try.ntmps119
    go_wp2_with (go_at_call 110; refine (HV.out _ (by (repeat (first | exact Below.refl _ _ | assumption | (refine Below.alloc ?_ (by first | omega | (simp; omega) | (simp; done)) _) | (refine Below.setCell ?_ (by first | omega | (simp; omega) | (simp; done)) _) | (refine Below.drew ?_) | (refine belowN ?_ _) | (refine Below.trans ?_ (Below.mono ‹Below _ _ _› (by first | omega | (simp; omega) | (simp; done)))))))).mono ?_; rintro _ W1 ⟨rfl, hb1⟩)
    go_ret
    exact ⟨ret_bool HT.out.symm, bl2 (by (repeat (first | exact Below.refl _ _ | assumption | (refine Below.alloc ?_ (by first | omega | (simp; omega) | (simp; done)) _) | (refine Below.setCell ?_ (by first | omega | (simp; omega) | (simp; done)) _) | (refine Below.drew ?_) | (refine belowN ?_ _) | (refine Below.trans ?_ (Below.mono ‹Below _ _ _› (by first | omega | (simp; omega) | (simp; done))))))) hb1⟩
set_option maxRecDepth 100000 in
set_option maxHeartbeats 1000000 in
theorem check_any (x : Alm) (A2 : Option Addr) (c2 : Nat) (rs : List DRl) (w : World) (hx : almB x = true) (hc : Sl Cyc.cells 2 w w.heap.size x.a x.cycles) (hr : RlsAt w w.heap.size A2 rs) :
    Calls Try.prog 90 #[.agg x.cells.toArray, .slice A2 rs.length c2] w fun e w' => e = .returned (.int .i64 (chkE x.cycles rs)) ∧ Below w.heap.size w w' := by
  have hlen := hr.len
  by_cases h30 : 30 < rs.length
  · have d1 : decide (30 < (rs.length : Int)) = true := by simp; omega
    have d1' : decide (30 < rs.length) = true := by simp; omega
    have HT : Hid (chkE x.cycles rs = 5) := (by simp [chkE, h30] : chkE x.cycles rs = 5)
    clear hr hc
    obtain ⟨A, c, l, ⟨e, b, u⟩, ⟨d, p, f, m, y, s, k⟩⟩ := x
    simp only [Alm.cells]
    go_enter Try.func90, Try.ntmps90
    go_wp2
    go_ret
    exact ⟨by rw [HT.out]; rfl, by (repeat (first | exact Below.refl _ _ | assumption | (refine Below.alloc ?_ (by first | omega | (simp; omega) | (simp; done)) _) | (refine Below.setCell ?_ (by first | omega | (simp; omega) | (simp; done)) _) | (refine Below.drew ?_) | (refine belowN ?_ _) | (refine Below.trans ?_ (Below.mono ‹Below _ _ _› (by first | omega | (simp; omega) | (simp; done))))))⟩
  · have d1 : decide (30 < (rs.length : Int)) = false := by simp; omega
    have d1' : decide (30 < rs.length) = false := by simp; omega
    have HA : Hid (AlmAt (w.alloc (.cells x.cells.toArray 28)) w.heap.size x) := ⟨Blk.at_ rfl, (hc.below ((Below.refl _ _).alloc (Nat.le_refl _) _)).more (by simp)⟩
    have HV := Lib.hid (fun W (hW : Below (w.heap.size + 1) (w.alloc (.cells x.cells.toArray 28)) W) => rany_any 119 #[.pointer (some ⟨w.heap.size, 0, none⟩)] A2 c2 rs (badR x.cycles) W ent_checkG1 hr.len (((hr.below ((Below.refl _ _).alloc (Nat.le_refl _) _)).below (hW.mono (by omega))).more (by have := hW.size; simp at this; omega)).sl
      (fun r hm W2 hW2 => checkG1_any w.heap.size x r W2 hx ((HA.out.below (hW.mono (by simp))).below hW2) ((((hr.rul r hm).below ((Below.refl _ _).alloc (Nat.le_refl _) _)).below (hW.mono (by omega))).more (by have := hW.size; simp at this; omega) |>.below hW2 |>.more hW2.size)))
    obtain ⟨v, hv⟩ : ∃ v, v = rs.any (badR x.cycles) := ⟨_, rfl⟩
    have HT : Hid (chkE x.cycles rs = if v then 4 else 0) := (by rw [hv]; simp only [chkE, if_neg h30] : chkE x.cycles rs = _)
    rw [← hv] at HV
    clear hr hc hv h30 HA
    obtain ⟨A, c, l, ⟨e, b, u⟩, ⟨d, p, f, m, y, s, k⟩⟩ := x
    simp only [Alm.cells] at *
    cases v
    all_goals
      go_enter Try.func90, Try.ntmps90
      go_wp2_with (go_at_call 118; refine (HV.out _ (by (repeat (first | exact Below.refl _ _ | assumption | (refine Below.alloc ?_ (by first | omega | (simp; omega) | (simp; done)) _) | (refine Below.setCell ?_ (by first | omega | (simp; omega) | (simp; done)) _) | (refine Below.drew ?_) | (refine belowN ?_ _) | (refine Below.trans ?_ (Below.mono ‹Below _ _ _› (by first | omega | (simp; omega) | (simp; done)))))))).mono ?_; rintro _ W1 ⟨rfl, hb1⟩)
      go_ret
      exact ⟨by rw [HT.out]; rfl, bl2 (by (repeat (first | exact Below.refl _ _ | assumption | (refine Below.alloc ?_ (by first | omega | (simp; omega) | (simp; done)) _) | (refine Below.setCell ?_ (by first | omega | (simp; omega) | (simp; done)) _) | (refine Below.drew ?_) | (refine belowN ?_ _) | (refine Below.trans ?_ (Below.mono ‹Below _ _ _› (by first | omega | (simp; omega) | (simp; done))))))) hb1⟩
set_option maxRecDepth 100000 in
set_option maxHeartbeats 1000000 in
theorem both_any (x : Alm) (A2 : Option Addr) (c2 : Nat) (rs : List DRl) (w : World) (hl : x.cycles.length ≤ 1000000) (hc : Sl Cyc.cells 2 w w.heap.size x.a x.cycles) (hr : RlsAt w w.heap.size A2 rs) :
    Calls Try.prog 59 #[.agg x.cells.toArray, .slice A2 rs.length c2] w fun e w' => e = .returned (.int .i64 (bothE x rs)) ∧ Below w.heap.size w w' := by
  have HC := Lib.hid (fun W (hW : Below w.heap.size w W) => by
    have h := checkF_any x.a x.c x.cycles x.sol.e x.sol.b x.sol.u x.lun.d x.lun.p x.lun.f x.lun.m x.lun.y x.lun.s x.lun.l W hl ((hc.below hW).more hW.size)
    exact (h : Calls Try.prog 36 #[.agg x.cells.toArray] W fun en w' => en = .returned (.int .i64 (almE x)) ∧ Below W.heap.size W w'))
  cases hx : almB x with
  | false =>
    have HT : Hid (bothE x rs = 2) := (by simp [bothE, hx] : bothE x rs = 2)
    have hE : almE x = 2 := by simp [almE, hx]
    rw [hE] at HC
    clear hE hx hc hr
    obtain ⟨A, c, l, ⟨e, b, u⟩, ⟨d, p, f, m, y, s, k⟩⟩ := x
    simp only [Alm.cells] at *
    go_enter Try.func59, Try.ntmps59
    go_wp2_with (go_at_call 36; refine (HC.out _ (by (repeat (first | exact Below.refl _ _ | assumption | (refine Below.alloc ?_ (by first | omega | (simp; omega) | (simp; done)) _) | (refine Below.setCell ?_ (by first | omega | (simp; omega) | (simp; done)) _) | (refine Below.drew ?_) | (refine belowN ?_ _) | (refine Below.trans ?_ (Below.mono ‹Below _ _ _› (by first | omega | (simp; omega) | (simp; done)))))))).mono ?_; rintro _ W1 ⟨rfl, hb1⟩)
    go_ret
    exact ⟨by rw [HT.out]; rfl, bl2 (by (repeat (first | exact Below.refl _ _ | assumption | (refine Below.alloc ?_ (by first | omega | (simp; omega) | (simp; done)) _) | (refine Below.setCell ?_ (by first | omega | (simp; omega) | (simp; done)) _) | (refine Below.drew ?_) | (refine belowN ?_ _) | (refine Below.trans ?_ (Below.mono ‹Below _ _ _› (by first | omega | (simp; omega) | (simp; done))))))) hb1⟩
  | true =>
    have HT : Hid (bothE x rs = chkE x.cycles rs) := (by simp [bothE, hx] : bothE x rs = _)
    have hE : almE x = 0 := by simp [almE, hx]
    rw [hE] at HC
    have HV := Lib.hid (fun W (hW : Below w.heap.size w W) => check_any x A2 c2 rs W hx ((hc.below hW).more hW.size) ((hr.below hW).more hW.size))
    obtain ⟨v, hv⟩ : ∃ v, v = chkE x.cycles rs := ⟨_, rfl⟩
    rw [← hv] at HV HT
    clear hE hx hc hr hv
    obtain ⟨A, c, l, ⟨e, b, u⟩, ⟨d, p, f, m, y, s, k⟩⟩ := x
    simp only [Alm.cells] at *
    go_enter Try.func59, Try.ntmps59
    go_wp2_with (first | (go_at_call 36; refine (HC.out _ (by (repeat (first | exact Below.refl _ _ | assumption | (refine Below.alloc ?_ (by first | omega | (simp; omega) | (simp; done)) _) | (refine Below.setCell ?_ (by first | omega | (simp; omega) | (simp; done)) _) | (refine Below.drew ?_) | (refine belowN ?_ _) | (refine Below.trans ?_ (Below.mono ‹Below _ _ _› (by first | omega | (simp; omega) | (simp; done)))))))).mono ?_; rintro _ W1 ⟨rfl, hb1⟩; have hw1 : Below w.heap.size w W1 := bl2 (by (repeat (first | exact Below.refl _ _ | assumption | (refine Below.alloc ?_ (by first | omega | (simp; omega) | (simp; done)) _) | (refine Below.setCell ?_ (by first | omega | (simp; omega) | (simp; done)) _) | (refine Below.drew ?_) | (refine belowN ?_ _) | (refine Below.trans ?_ (Below.mono ‹Below _ _ _› (by first | omega | (simp; omega) | (simp; done))))))) hb1; have ga : Blk W1 w.heap.size #[.slice A l.length c, .int .i64 e, .int .i64 b, .int .i64 u, .int .i64 d, .int .i64 p, .int .i64 f, .int .i64 m, .int .i64 y, .int .i64 s, .int .i64 k] 28 := (Blk.at_ rfl).below hb1 (by first | omega | (simp; omega) | (simp; done)); (have z0 := ga.cell 0; have z1 := ga.cell 1; have z2 := ga.cell 2; have z3 := ga.cell 3; have z4 := ga.cell 4; have z5 := ga.cell 5; have z6 := ga.cell 6; have z7 := ga.cell 7; have z8 := ga.cell 8; have z9 := ga.cell 9; have z10 := ga.cell 10; simp at z0 z1 z2 z3 z4 z5 z6 z7 z8 z9 z10)) | (go_at_call 90; refine (HV.out _ (by (repeat (first | exact Below.refl _ _ | assumption | (refine Below.alloc ?_ (by first | omega | (simp; omega) | (simp; done)) _) | (refine Below.setCell ?_ (by first | omega | (simp; omega) | (simp; done)) _) | (refine Below.drew ?_) | (refine belowN ?_ _) | (refine Below.trans ?_ (Below.mono ‹Below _ _ _› (by first | omega | (simp; omega) | (simp; done)))))))).mono ?_; rintro _ W2 ⟨rfl, hb2⟩))
    go_ret
    exact ⟨by rw [HT.out]; rfl, bl2 hw1 hb2⟩
end Go.Proofs.Ytfbnllmmoaialaa

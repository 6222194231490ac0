/- School: slices.IndexFunc and ContainsFunc at each element type (made by gen_idx.py). -/
import Derived.Test.YtidlmbajpbbilaaZ00Mem
namespace Go.Proofs.Ytidlmbajpbbilaa
open Go.RowKit
abbrev intCell (x : Int) : List Value := [.int .i64 x]
abbrev setCell1 (x : Int) : List Value := [.int .u64 x]
/-- a case of a commentary: the slice of its tests as a value, the tests, what it says -/
structure Cas where
  v : Value
  when_ : List Tst
  says : Int
abbrev Cas.cells (t : Cas) : List Value := [t.v, .int .i64 t.says]

set_option maxRecDepth 100000 in
theorem tests_idx_any (g : Nat) (cap : Array Value) (A : Option Addr) (c : Nat) (ts : List Tst) (p : Tst → Bool) (w : World)
    (hg : Ent g) (hl : ts.length ≤ 1000000) (hr : Sl Tst.cells 4 w w.heap.size A ts)
    (hf : ∀ t ∈ ts, ∀ W, Below w.heap.size w W → Calls Try.prog g (#[Value.agg #[(Value.int .i64 t.kind), (Value.int .i64 t.place), (Value.int .i64 t.other), (Value.int .u64 t.set)]] ++ cap) W fun e W' => e = .returned (.bool (p t)) ∧ Below W.heap.size W W') :
    Calls Try.prog 98 #[.slice A ts.length c, .func (.func g) #[] cap] w fun e w' => e = .returned (.int .i64 (firstIdx p ts)) ∧ Below w.heap.size w w' := by
  unfold Ent at hg
  have HF := Lib.hid hf; clear hf
  have HR := Lib.hid hr; clear hr
  go_enter Try.func98, Try.ntmps98
  go_wp2
  go_loopw [8] (fun i wr => ∃ k : Nat, k ≤ ts.length ∧ i = .int .i64 k ∧ Below w.heap.size w wr ∧ Hid (∀ j, (hj : j < ts.length) → j < k → p ts[j] = false)) (fun i _ => ts.length - (intOf i).toNat)
  case atStart => exact ⟨0, by omega, rfl, Below.refl _ _, fun j _ h => by omega⟩
  case round =>
    obtain ⟨k, hk, rfl, hb, hno⟩ := hrel
    by_cases hlt : k < ts.length
    · obtain ⟨ab, ao, rfl, hblk, hcell⟩ := (Sl.below HR.out hb).at_ (k := k) (fun _ => rfl) hlt
      obtain ⟨t, ht⟩ : ∃ t, ts[k] = t := ⟨_, rfl⟩
      rw [ht] at hcell
      have HM := Lib.hid (show t ∈ ts from ht ▸ List.getElem_mem hlt)
      have HT := Lib.hid ht; clear ht
      have c0 : wr.cell? ⟨ab, ao + k * 4, none⟩ = some (Value.int .i64 t.kind) := hcell 0 _ rfl
      have c1 : wr.cell? ⟨ab, ao + k * 4 + 1, none⟩ = some (Value.int .i64 t.place) := hcell 1 _ rfl
      have c2 : wr.cell? ⟨ab, ao + k * 4 + 2, none⟩ = some (Value.int .i64 t.other) := hcell 2 _ rfl
      have c3 : wr.cell? ⟨ab, ao + k * 4 + 3, none⟩ = some (Value.int .u64 t.set) := hcell 3 _ rfl
      clear hcell
      go_wp2_with fail
      refine (HF.out t HM.out wr hb).mono ?_
      rintro e w1 ⟨rfl, hb1⟩
      have hz := hb.size
      by_cases hp : p t = true
      · rw [hp]
        go_wp2
        go_ret
        exact ⟨ret_int (firstIdx_at p ts k hlt (fun j hj => hno.out j (by omega) hj) (HT.out ▸ hp)).symm, by (repeat (first | exact Below.refl _ _ | assumption | (refine Below.alloc ?_ (by first | omega | (simp; omega) | (simp; done)) _) | (refine Below.setCell ?_ (by first | omega | (simp; omega) | (simp; done)) _) | (refine Below.drew ?_) | (refine belowN ?_ _) | (refine Below.trans ?_ (Below.mono ‹Below _ _ _› (by first | omega | (simp; omega) | (simp; done))))))⟩
      · simp only [Bool.not_eq_true] at hp
        rw [hp]
        go_wp2
        go_roundw
        case rel => exact ⟨k + 1, by omega, by go_num, by (repeat (first | exact Below.refl _ _ | assumption | (refine Below.alloc ?_ (by first | omega | (simp; omega) | (simp; done)) _) | (refine Below.setCell ?_ (by first | omega | (simp; omega) | (simp; done)) _) | (refine Below.drew ?_) | (refine belowN ?_ _) | (refine Below.trans ?_ (Below.mono ‹Below _ _ _› (by first | omega | (simp; omega) | (simp; done)))))), fun j hj hj' => if h : j < k then hno.out j hj h else by obtain rfl : j = k := (by omega); exact HT.out ▸ hp⟩
        case measure => simp [intOf]; omega
    · go_wp2
      go_ret
      obtain rfl : k = ts.length := by omega
      exact ⟨ret_int (firstIdx_none p ts (fun j hj => hno.out j hj hj)).symm, hb⟩

theorem tests_any_any (g : Nat) (cap : Array Value) (A : Option Addr) (c : Nat) (ts : List Tst) (p : Tst → Bool) (w : World)
    (hg : Ent g) (hl : ts.length ≤ 1000000) (hr : Sl Tst.cells 4 w w.heap.size A ts)
    (hf : ∀ t ∈ ts, ∀ W, Below w.heap.size w W → Calls Try.prog g (#[Value.agg #[(Value.int .i64 t.kind), (Value.int .i64 t.place), (Value.int .i64 t.other), (Value.int .u64 t.set)]] ++ cap) W fun e W' => e = .returned (.bool (p t)) ∧ Below W.heap.size W W') :
    Calls Try.prog 89 #[.slice A ts.length c, .func (.func g) #[] cap] w fun e w' => e = .returned (.bool (ts.any p)) ∧ Below w.heap.size w w' := by
  have H := Lib.hid (tests_idx_any g cap A c ts p w hg hl hr hf)
  clear hf hr hl hg
  go_enter Try.func89, Try.ntmps89
  go_wp2_with fail
  refine H.out.mono ?_
  rintro e w1 ⟨rfl, hb1⟩
  go_wp2
  go_ret
  exact ⟨ret_bool (by rw [← firstIdx_any]), hb1⟩

set_option maxRecDepth 100000 in
theorem ints_idx_any (g : Nat) (cap : Array Value) (A : Option Addr) (c : Nat) (ts : List Int) (p : Int → Bool) (w : World)
    (hg : Ent g) (hl : ts.length ≤ 1000000) (hr : Sl intCell 1 w w.heap.size A ts)
    (hf : ∀ t ∈ ts, ∀ W, Below w.heap.size w W → Calls Try.prog g (#[Value.int .i64 t] ++ cap) W fun e W' => e = .returned (.bool (p t)) ∧ Below W.heap.size W W') :
    Calls Try.prog 97 #[.slice A ts.length c, .func (.func g) #[] cap] w fun e w' => e = .returned (.int .i64 (firstIdx p ts)) ∧ Below w.heap.size w w' := by
  unfold Ent at hg
  have HF := Lib.hid hf; clear hf
  have HR := Lib.hid hr; clear hr
  go_enter Try.func97, Try.ntmps97
  go_wp2
  go_loopw [8] (fun i wr => ∃ k : Nat, k ≤ ts.length ∧ i = .int .i64 k ∧ Below w.heap.size w wr ∧ Hid (∀ j, (hj : j < ts.length) → j < k → p ts[j] = false)) (fun i _ => ts.length - (intOf i).toNat)
  case atStart => exact ⟨0, by omega, rfl, Below.refl _ _, fun j _ h => by omega⟩
  case round =>
    obtain ⟨k, hk, rfl, hb, hno⟩ := hrel
    by_cases hlt : k < ts.length
    · obtain ⟨ab, ao, rfl, hblk, hcell⟩ := (Sl.below HR.out hb).at_ (k := k) (fun _ => rfl) hlt
      obtain ⟨t, ht⟩ : ∃ t, ts[k] = t := ⟨_, rfl⟩
      rw [ht] at hcell
      have HM := Lib.hid (show t ∈ ts from ht ▸ List.getElem_mem hlt)
      have HT := Lib.hid ht; clear ht
      have c0 : wr.cell? ⟨ab, ao + k, none⟩ = some (Value.int .i64 t) := by have := hcell 0 _ rfl; simpa using this
      clear hcell
      go_wp2_with fail
      refine (HF.out t HM.out wr hb).mono ?_
      rintro e w1 ⟨rfl, hb1⟩
      have hz := hb.size
      by_cases hp : p t = true
      · rw [hp]
        go_wp2
        go_ret
        exact ⟨ret_int (firstIdx_at p ts k hlt (fun j hj => hno.out j (by omega) hj) (HT.out ▸ hp)).symm, by (repeat (first | exact Below.refl _ _ | assumption | (refine Below.alloc ?_ (by first | omega | (simp; omega) | (simp; done)) _) | (refine Below.setCell ?_ (by first | omega | (simp; omega) | (simp; done)) _) | (refine Below.drew ?_) | (refine belowN ?_ _) | (refine Below.trans ?_ (Below.mono ‹Below _ _ _› (by first | omega | (simp; omega) | (simp; done))))))⟩
      · simp only [Bool.not_eq_true] at hp
        rw [hp]
        go_wp2
        go_roundw
        case rel => exact ⟨k + 1, by omega, by go_num, by (repeat (first | exact Below.refl _ _ | assumption | (refine Below.alloc ?_ (by first | omega | (simp; omega) | (simp; done)) _) | (refine Below.setCell ?_ (by first | omega | (simp; omega) | (simp; done)) _) | (refine Below.drew ?_) | (refine belowN ?_ _) | (refine Below.trans ?_ (Below.mono ‹Below _ _ _› (by first | omega | (simp; omega) | (simp; done)))))), fun j hj hj' => if h : j < k then hno.out j hj h else by obtain rfl : j = k := (by omega); exact HT.out ▸ hp⟩
        case measure => simp [intOf]; omega
    · go_wp2
      go_ret
      obtain rfl : k = ts.length := by omega
      exact ⟨ret_int (firstIdx_none p ts (fun j hj => hno.out j hj hj)).symm, hb⟩

theorem ints_any_any (g : Nat) (cap : Array Value) (A : Option Addr) (c : Nat) (ts : List Int) (p : Int → Bool) (w : World)
    (hg : Ent g) (hl : ts.length ≤ 1000000) (hr : Sl intCell 1 w w.heap.size A ts)
    (hf : ∀ t ∈ ts, ∀ W, Below w.heap.size w W → Calls Try.prog g (#[Value.int .i64 t] ++ cap) W fun e W' => e = .returned (.bool (p t)) ∧ Below W.heap.size W W') :
    Calls Try.prog 86 #[.slice A ts.length c, .func (.func g) #[] cap] w fun e w' => e = .returned (.bool (ts.any p)) ∧ Below w.heap.size w w' := by
  have H := Lib.hid (ints_idx_any g cap A c ts p w hg hl hr hf)
  clear hf hr hl hg
  go_enter Try.func86, Try.ntmps86
  go_wp2_with fail
  refine H.out.mono ?_
  rintro e w1 ⟨rfl, hb1⟩
  go_wp2
  go_ret
  exact ⟨ret_bool (by rw [← firstIdx_any]), hb1⟩

set_option maxRecDepth 100000 in
theorem sets_idx_any (g : Nat) (cap : Array Value) (A : Option Addr) (c : Nat) (ts : List Int) (p : Int → Bool) (w : World)
    (hg : Ent g) (hl : ts.length ≤ 1000000) (hr : Sl setCell1 1 w w.heap.size A ts)
    (hf : ∀ t ∈ ts, ∀ W, Below w.heap.size w W → Calls Try.prog g (#[Value.int .u64 t] ++ cap) W fun e W' => e = .returned (.bool (p t)) ∧ Below W.heap.size W W') :
    Calls Try.prog 96 #[.slice A ts.length c, .func (.func g) #[] cap] w fun e w' => e = .returned (.int .i64 (firstIdx p ts)) ∧ Below w.heap.size w w' := by
  unfold Ent at hg
  have HF := Lib.hid hf; clear hf
  have HR := Lib.hid hr; clear hr
  go_enter Try.func96, Try.ntmps96
  go_wp2
  go_loopw [8] (fun i wr => ∃ k : Nat, k ≤ ts.length ∧ i = .int .i64 k ∧ Below w.heap.size w wr ∧ Hid (∀ j, (hj : j < ts.length) → j < k → p ts[j] = false)) (fun i _ => ts.length - (intOf i).toNat)
  case atStart => exact ⟨0, by omega, rfl, Below.refl _ _, fun j _ h => by omega⟩
  case round =>
    obtain ⟨k, hk, rfl, hb, hno⟩ := hrel
    by_cases hlt : k < ts.length
    · obtain ⟨ab, ao, rfl, hblk, hcell⟩ := (Sl.below HR.out hb).at_ (k := k) (fun _ => rfl) hlt
      obtain ⟨t, ht⟩ : ∃ t, ts[k] = t := ⟨_, rfl⟩
      rw [ht] at hcell
      have HM := Lib.hid (show t ∈ ts from ht ▸ List.getElem_mem hlt)
      have HT := Lib.hid ht; clear ht
      have c0 : wr.cell? ⟨ab, ao + k, none⟩ = some (Value.int .u64 t) := by have := hcell 0 _ rfl; simpa using this
      clear hcell
      go_wp2_with fail
      refine (HF.out t HM.out wr hb).mono ?_
      rintro e w1 ⟨rfl, hb1⟩
      have hz := hb.size
      by_cases hp : p t = true
      · rw [hp]
        go_wp2
        go_ret
        exact ⟨ret_int (firstIdx_at p ts k hlt (fun j hj => hno.out j (by omega) hj) (HT.out ▸ hp)).symm, by (repeat (first | exact Below.refl _ _ | assumption | (refine Below.alloc ?_ (by first | omega | (simp; omega) | (simp; done)) _) | (refine Below.setCell ?_ (by first | omega | (simp; omega) | (simp; done)) _) | (refine Below.drew ?_) | (refine belowN ?_ _) | (refine Below.trans ?_ (Below.mono ‹Below _ _ _› (by first | omega | (simp; omega) | (simp; done))))))⟩
      · simp only [Bool.not_eq_true] at hp
        rw [hp]
        go_wp2
        go_roundw
        case rel => exact ⟨k + 1, by omega, by go_num, by (repeat (first | exact Below.refl _ _ | assumption | (refine Below.alloc ?_ (by first | omega | (simp; omega) | (simp; done)) _) | (refine Below.setCell ?_ (by first | omega | (simp; omega) | (simp; done)) _) | (refine Below.drew ?_) | (refine belowN ?_ _) | (refine Below.trans ?_ (Below.mono ‹Below _ _ _› (by first | omega | (simp; omega) | (simp; done)))))), fun j hj hj' => if h : j < k then hno.out j hj h else by obtain rfl : j = k := (by omega); exact HT.out ▸ hp⟩
        case measure => simp [intOf]; omega
    · go_wp2
      go_ret
      obtain rfl : k = ts.length := by omega
      exact ⟨ret_int (firstIdx_none p ts (fun j hj => hno.out j hj hj)).symm, hb⟩

theorem sets_any_any (g : Nat) (cap : Array Value) (A : Option Addr) (c : Nat) (ts : List Int) (p : Int → Bool) (w : World)
    (hg : Ent g) (hl : ts.length ≤ 1000000) (hr : Sl setCell1 1 w w.heap.size A ts)
    (hf : ∀ t ∈ ts, ∀ W, Below w.heap.size w W → Calls Try.prog g (#[Value.int .u64 t] ++ cap) W fun e W' => e = .returned (.bool (p t)) ∧ Below W.heap.size W W') :
    Calls Try.prog 82 #[.slice A ts.length c, .func (.func g) #[] cap] w fun e w' => e = .returned (.bool (ts.any p)) ∧ Below w.heap.size w w' := by
  have H := Lib.hid (sets_idx_any g cap A c ts p w hg hl hr hf)
  clear hf hr hl hg
  go_enter Try.func82, Try.ntmps82
  go_wp2_with fail
  refine H.out.mono ?_
  rintro e w1 ⟨rfl, hb1⟩
  go_wp2
  go_ret
  exact ⟨ret_bool (by rw [← firstIdx_any]), hb1⟩

set_option maxRecDepth 100000 in
theorem cases_idx_any (g : Nat) (cap : Array Value) (A : Option Addr) (c : Nat) (ts : List Cas) (p : Cas → Bool) (w : World)
    (hg : Ent g) (hl : ts.length ≤ 1000000) (hr : Sl Cas.cells 2 w w.heap.size A ts)
    (hf : ∀ t ∈ ts, ∀ W, Below w.heap.size w W → Calls Try.prog g (#[Value.agg #[(t.v), (Value.int .i64 t.says)]] ++ cap) W fun e W' => e = .returned (.bool (p t)) ∧ Below W.heap.size W W') :
    Calls Try.prog 70 #[.slice A ts.length c, .func (.func g) #[] cap] w fun e w' => e = .returned (.int .i64 (firstIdx p ts)) ∧ Below w.heap.size w w' := by
  unfold Ent at hg
  have HF := Lib.hid hf; clear hf
  have HR := Lib.hid hr; clear hr
  go_enter Try.func70, Try.ntmps70
  go_wp2
  go_loopw [8] (fun i wr => ∃ k : Nat, k ≤ ts.length ∧ i = .int .i64 k ∧ Below w.heap.size w wr ∧ Hid (∀ j, (hj : j < ts.length) → j < k → p ts[j] = false)) (fun i _ => ts.length - (intOf i).toNat)
  case atStart => exact ⟨0, by omega, rfl, Below.refl _ _, fun j _ h => by omega⟩
  case round =>
    obtain ⟨k, hk, rfl, hb, hno⟩ := hrel
    by_cases hlt : k < ts.length
    · obtain ⟨ab, ao, rfl, hblk, hcell⟩ := (Sl.below HR.out hb).at_ (k := k) (fun _ => rfl) hlt
      obtain ⟨t, ht⟩ : ∃ t, ts[k] = t := ⟨_, rfl⟩
      rw [ht] at hcell
      have HM := Lib.hid (show t ∈ ts from ht ▸ List.getElem_mem hlt)
      have HT := Lib.hid ht; clear ht
      have c0 : wr.cell? ⟨ab, ao + k * 2, none⟩ = some (t.v) := hcell 0 _ rfl
      have c1 : wr.cell? ⟨ab, ao + k * 2 + 1, none⟩ = some (Value.int .i64 t.says) := hcell 1 _ rfl
      clear hcell
      go_wp2_with fail
      refine (HF.out t HM.out wr hb).mono ?_
      rintro e w1 ⟨rfl, hb1⟩
      have hz := hb.size
      by_cases hp : p t = true
      · rw [hp]
        go_wp2
        go_ret
        exact ⟨ret_int (firstIdx_at p ts k hlt (fun j hj => hno.out j (by omega) hj) (HT.out ▸ hp)).symm, by (repeat (first | exact Below.refl _ _ | assumption | (refine Below.alloc ?_ (by first | omega | (simp; omega) | (simp; done)) _) | (refine Below.setCell ?_ (by first | omega | (simp; omega) | (simp; done)) _) | (refine Below.drew ?_) | (refine belowN ?_ _) | (refine Below.trans ?_ (Below.mono ‹Below _ _ _› (by first | omega | (simp; omega) | (simp; done))))))⟩
      · simp only [Bool.not_eq_true] at hp
        rw [hp]
        go_wp2
        go_roundw
        case rel => exact ⟨k + 1, by omega, by go_num, by (repeat (first | exact Below.refl _ _ | assumption | (refine Below.alloc ?_ (by first | omega | (simp; omega) | (simp; done)) _) | (refine Below.setCell ?_ (by first | omega | (simp; omega) | (simp; done)) _) | (refine Below.drew ?_) | (refine belowN ?_ _) | (refine Below.trans ?_ (Below.mono ‹Below _ _ _› (by first | omega | (simp; omega) | (simp; done)))))), fun j hj hj' => if h : j < k then hno.out j hj h else by obtain rfl : j = k := (by omega); exact HT.out ▸ hp⟩
        case measure => simp [intOf]; omega
    · go_wp2
      go_ret
      obtain rfl : k = ts.length := by omega
      exact ⟨ret_int (firstIdx_none p ts (fun j hj => hno.out j hj hj)).symm, hb⟩

theorem cases_any_any (g : Nat) (cap : Array Value) (A : Option Addr) (c : Nat) (ts : List Cas) (p : Cas → Bool) (w : World)
    (hg : Ent g) (hl : ts.length ≤ 1000000) (hr : Sl Cas.cells 2 w w.heap.size A ts)
    (hf : ∀ t ∈ ts, ∀ W, Below w.heap.size w W → Calls Try.prog g (#[Value.agg #[(t.v), (Value.int .i64 t.says)]] ++ cap) W fun e W' => e = .returned (.bool (p t)) ∧ Below W.heap.size W W') :
    Calls Try.prog 64 #[.slice A ts.length c, .func (.func g) #[] cap] w fun e w' => e = .returned (.bool (ts.any p)) ∧ Below w.heap.size w w' := by
  have H := Lib.hid (cases_idx_any g cap A c ts p w hg hl hr hf)
  clear hf hr hl hg
  go_enter Try.func64, Try.ntmps64
  go_wp2_with fail
  refine H.out.mono ?_
  rintro e w1 ⟨rfl, hb1⟩
  go_wp2
  go_ret
  exact ⟨ret_bool (by rw [← firstIdx_any]), hb1⟩
end Go.Proofs.Ytidlmbajpbbilaa
namespace Go.Proofs.Ytidlmbajpbbilaa
open Go.RowKit

/-- a variable that holds a school -/
def ScBox (W : World) (B : Nat) (s : Sch) (R : Value) : Prop :=
  B < W.heap.size ∧ W.cell? ⟨B, 0, none⟩ = some (.int .i64 s.places) ∧ W.cell? ⟨B, 1, none⟩ = some (.int .i64 s.signs) ∧ W.cell? ⟨B, 2, none⟩ = some (.int .i64 s.kinds) ∧ W.cell? ⟨B, 3, none⟩ = some (.int .i64 s.answers) ∧ W.cell? ⟨B, 4, none⟩ = some R
theorem ScBox.below {W W' : World} {B : Nat} {s : Sch} {R : Value} {n : Nat} (h : ScBox W B s R) (hb : Below n W W') (hn : B < n) : ScBox W' B s R := by
  obtain ⟨h, h0, h1, h2, h3, h4⟩ := h
  have hc := (bcell hb).1
  exact ⟨Nat.lt_of_lt_of_le h hb.size, by rw [hc _ _ hn, h0], by rw [hc _ _ hn, h1], by rw [hc _ _ hn, h2], by rw [hc _ _ hn, h3], by rw [hc _ _ hn, h4]⟩
def Small (s : Sch) : Prop := 1 ≤ s.places ∧ s.places ≤ 6 ∧ 1 ≤ s.signs ∧ s.signs ≤ 64

theorem ent_areTests1 : Ent 90 := ent_of Try.func90 (by kernel_rfl) rfl
theorem areTests1_any (s : Sch) (R : Value) (t : Tst) (B : Nat) (W : World) (ht : t.ok) (hs : Small s) (hbx : ScBox W B s R) :
    Calls Try.prog 90 (#[Value.agg #[.int .i64 t.kind, .int .i64 t.place, .int .i64 t.other, .int .u64 t.set]] ++ #[.pointer (some ⟨B, 0, none⟩)]) W fun e W' => e = .returned (.bool (!tstB s t)) ∧ Below W.heap.size W W' := by
  have HI := fun W => Lib.hid (isTest_any s t R ht hs.1 hs.2.1 hs.2.2.1 hs.2.2.2 W)
  obtain ⟨hB, h0, h1, h2, h3, h4⟩ := hbx
  obtain ⟨p, s, k, a, ra, rc, rs⟩ := s
  simp only at *
  clear ht hs
  go_enter Try.func90, Try.ntmps90
  go_wp2_with fail
  refine (HI _).out.mono ?_
  rintro e w1 ⟨rfl, hb1⟩
  go_wp2
  go_ret
  exact ⟨rfl, by (repeat (first | exact Below.refl _ _ | assumption | (refine Below.alloc ?_ (by first | omega | (simp; omega) | (simp; done)) _) | (refine Below.setCell ?_ (by first | omega | (simp; omega) | (simp; done)) _) | (refine Below.drew ?_) | (refine belowN ?_ _) | (refine Below.trans ?_ (Below.mono ‹Below _ _ _› (by first | omega | (simp; omega) | (simp; done))))))⟩

def testsB (s : Sch) (ts : List Tst) : Bool := decide (ts.length ≤ 6) && ts.all (tstB s)
theorem not_any_not {α : Type} (p : α → Bool) (l : List α) : (!(l.any fun t => !p t)) = l.all p := by
  induction l with
  | nil => rfl
  | cons x l ih => simp only [List.any_cons, List.all_cons, Bool.not_or, Bool.not_not, ih]
theorem areTests_any (s : Sch) (R : Value) (A : Option Addr) (c : Nat) (ts : List Tst) (w : World) (hs : Small s) (hl : ts.length ≤ 1000000) (ho : ∀ t ∈ ts, t.ok) (hr : Sl Tst.cells 4 w w.heap.size A ts) :
    Calls Try.prog 66 #[scv s R, .slice A ts.length c] w fun e w' => e = .returned (.bool (testsB s ts)) ∧ Below w.heap.size w w' := by
  by_cases h6 : ts.length ≤ 6
  · have d6 : decide ((ts.length : Int) ≤ 6) = true := by simp; omega
    have HC : ∀ (W : World) (B : Nat), Below w.heap.size w W → ScBox W B s R → Calls Try.prog 89 #[.slice A ts.length c, .func (.func 90) #[] #[.pointer (some ⟨B, 0, none⟩)]] W fun e w' => e = .returned (.bool (ts.any fun t => !tstB s t)) ∧ Below W.heap.size W w' := by
      intro W B hW hB
      refine tests_any_any 90 _ A c ts _ W ent_areTests1 hl ((hr.below hW).more hW.size) ?_
      intro t ht W' hW'
      exact areTests1_any s R t B W' (ho t ht) hs (hB.below hW' hB.1)
    have HC := fun W B => Lib.hid (HC W B)
    clear ho hr hs
    obtain ⟨p, sg, k, a, ra, rc, rs⟩ := s
    go_enter Try.func66, Try.ntmps66
    go_wp2_with fail
    refine ((HC _ w.heap.size).out (by (repeat (first | exact Below.refl _ _ | assumption | (refine Below.alloc ?_ (by first | omega | (simp; omega) | (simp; done)) _) | (refine Below.setCell ?_ (by first | omega | (simp; omega) | (simp; done)) _) | (refine Below.drew ?_) | (refine belowN ?_ _) | (refine Below.trans ?_ (Below.mono ‹Below _ _ _› (by first | omega | (simp; omega) | (simp; done))))))) ⟨by simp, by simp [go_sem], by simp [go_sem], by simp [go_sem], by simp [go_sem], by simp [go_sem]⟩).mono ?_
    rintro e w1 ⟨rfl, hb1⟩
    go_wp2
    go_ret
    exact ⟨ret_bool (by simp only [testsB, not_any_not]; simp [h6]), by (repeat (first | exact Below.refl _ _ | assumption | (refine Below.alloc ?_ (by first | omega | (simp; omega) | (simp; done)) _) | (refine Below.setCell ?_ (by first | omega | (simp; omega) | (simp; done)) _) | (refine Below.drew ?_) | (refine belowN ?_ _) | (refine Below.trans ?_ (Below.mono ‹Below _ _ _› (by first | omega | (simp; omega) | (simp; done))))))⟩
  · have d6 : decide ((ts.length : Int) ≤ 6) = false := by simp; omega
    clear ho hr hs
    obtain ⟨p, sg, k, a, ra, rc, rs⟩ := s
    go_enter Try.func66, Try.ntmps66
    go_wp2_with fail
    go_ret
    exact ⟨ret_bool (by simp [testsB, h6]), by (repeat (first | exact Below.refl _ _ | assumption | (refine Below.alloc ?_ (by first | omega | (simp; omega) | (simp; done)) _) | (refine Below.setCell ?_ (by first | omega | (simp; omega) | (simp; done)) _) | (refine Below.drew ?_) | (refine belowN ?_ _) | (refine Below.trans ?_ (Below.mono ‹Below _ _ _› (by first | omega | (simp; omega) | (simp; done))))))⟩

theorem isKind_any (s : Sch) (R : Value) (kind : Int) (w : World) (h1 : 1 ≤ s.kinds) (h2 : s.kinds ≤ 4) :
    Calls Try.prog 51 #[scv s R, .int .i64 kind] w fun e w' => e = .returned (.bool (inB kind 0 (s.kinds - 1))) ∧ Below w.heap.size w w' := by
  obtain ⟨p, sg, k, a, ra, rc, rs⟩ := s
  simp only at *
  go_enter Try.func51, Try.ntmps51
  go_wp2_with (first | (go_at_call 67; refine (within_any _ _ _ _).mono ?_; rintro e w' ⟨rfl, rfl⟩))
  go_ret
  exact ⟨rfl, by (repeat (first | exact Below.refl _ _ | assumption | (refine Below.alloc ?_ (by first | omega | (simp; omega) | (simp; done)) _) | (refine Below.setCell ?_ (by first | omega | (simp; omega) | (simp; done)) _) | (refine Below.drew ?_) | (refine belowN ?_ _) | (refine Below.trans ?_ (Below.mono ‹Below _ _ _› (by first | omega | (simp; omega) | (simp; done))))))⟩

theorem ent_regValid1 : Ent 83 := ent_of Try.func83 (by kernel_rfl) rfl
theorem regValid1_any (s : Sch) (R : Value) (x : Int) (B : Nat) (W : World) (hx : 0 ≤ x ∧ x < 18446744073709551616) (hs : Small s) (hbx : ScBox W B s R) :
    Calls Try.prog 83 (#[Value.int .u64 x] ++ #[.pointer (some ⟨B, 0, none⟩)]) W fun e W' => e = .returned (.bool (!fitsB s.signs x)) ∧ Below W.heap.size W W' := by
  have HI := fun W => Lib.hid (fits_any s x R hs.2.2.1 hs.2.2.2 hx.1 hx.2 W)
  obtain ⟨hB, h0, h1, h2, h3, h4⟩ := hbx
  obtain ⟨p, s, k, a, ra, rc, rs⟩ := s
  simp only at *
  clear hx hs
  go_enter Try.func83, Try.ntmps83
  go_wp2_with fail
  refine (HI _).out.mono ?_
  rintro e w1 ⟨rfl, hb1⟩
  go_wp2
  go_ret
  exact ⟨rfl, by (repeat (first | exact Below.refl _ _ | assumption | (refine Below.alloc ?_ (by first | omega | (simp; omega) | (simp; done)) _) | (refine Below.setCell ?_ (by first | omega | (simp; omega) | (simp; done)) _) | (refine Below.drew ?_) | (refine belowN ?_ _) | (refine Below.trans ?_ (Below.mono ‹Below _ _ _› (by first | omega | (simp; omega) | (simp; done))))))⟩
def regB (s : Sch) (l : List Int) : Bool := decide ((l.length : Int) = s.places) && l.all (fitsB s.signs)
def IsU64 (x : Int) : Prop := 0 ≤ x ∧ x < 18446744073709551616
theorem regValid_any (s : Sch) (R : Value) (A : Option Addr) (c : Nat) (l : List Int) (w : World) (hs : Small s) (hl : l.length ≤ 1000000) (ho : ∀ x ∈ l, IsU64 x) (hr : Sl setCell1 1 w w.heap.size A l) :
    Calls Try.prog 52 #[.slice A l.length c, scv s R] w fun e w' => e = .returned (.bool (regB s l)) ∧ Below w.heap.size w w' := by
  by_cases h6 : (l.length : Int) = s.places
  · have d6 : ((l.length : Int) == s.places) = true := by simp [h6]
    have HC : ∀ (W : World) (B : Nat), Below w.heap.size w W → ScBox W B s R → Calls Try.prog 82 #[.slice A l.length c, .func (.func 83) #[] #[.pointer (some ⟨B, 0, none⟩)]] W fun e w' => e = .returned (.bool (l.any fun t => !fitsB s.signs t)) ∧ Below W.heap.size W w' := by
      intro W B hW hB
      refine sets_any_any 83 _ A c l _ W ent_regValid1 hl ((hr.below hW).more hW.size) ?_
      intro t ht W' hW'
      exact regValid1_any s R t B W' (ho t ht) hs (hB.below hW' hB.1)
    have HC := fun W B => Lib.hid (HC W B)
    have H6 := Lib.hid h6
    clear ho hr hs h6
    obtain ⟨p, sg, k, a, ra, rc, rs⟩ := s
    simp only at d6
    go_enter Try.func52, Try.ntmps52
    go_wp2_with fail
    refine ((HC _ w.heap.size).out (by (repeat (first | exact Below.refl _ _ | assumption | (refine Below.alloc ?_ (by first | omega | (simp; omega) | (simp; done)) _) | (refine Below.setCell ?_ (by first | omega | (simp; omega) | (simp; done)) _) | (refine Below.drew ?_) | (refine belowN ?_ _) | (refine Below.trans ?_ (Below.mono ‹Below _ _ _› (by first | omega | (simp; omega) | (simp; done))))))) ⟨by simp, by simp [go_sem], by simp [go_sem], by simp [go_sem], by simp [go_sem], by simp [go_sem]⟩).mono ?_
    rintro e w1 ⟨rfl, hb1⟩
    go_wp2
    go_ret
    exact ⟨ret_bool (by simp only [regB, not_any_not]; simp [H6.out]), by (repeat (first | exact Below.refl _ _ | assumption | (refine Below.alloc ?_ (by first | omega | (simp; omega) | (simp; done)) _) | (refine Below.setCell ?_ (by first | omega | (simp; omega) | (simp; done)) _) | (refine Below.drew ?_) | (refine belowN ?_ _) | (refine Below.trans ?_ (Below.mono ‹Below _ _ _› (by first | omega | (simp; omega) | (simp; done))))))⟩
  · have d6 : ((l.length : Int) == s.places) = false := by simpa using h6
    clear ho hr hs
    obtain ⟨p, sg, k, a, ra, rc, rs⟩ := s
    simp only at d6 h6
    go_enter Try.func52, Try.ntmps52
    go_wp2_with fail
    go_ret
    exact ⟨ret_bool (by simp [regB, h6]), by (repeat (first | exact Below.refl _ _ | assumption | (refine Below.alloc ?_ (by first | omega | (simp; omega) | (simp; done)) _) | (refine Below.setCell ?_ (by first | omega | (simp; omega) | (simp; done)) _) | (refine Below.drew ?_) | (refine belowN ?_ _) | (refine Below.trans ?_ (Below.mono ‹Below _ _ _› (by first | omega | (simp; omega) | (simp; done))))))⟩

theorem ent_isChart1 : Ent 93 := ent_of Try.func93 (by kernel_rfl) rfl
theorem isChart1_any (s : Sch) (R : Value) (x : Int) (B : Nat) (W : World) (hs : Small s) (hbx : ScBox W B s R) :
    Calls Try.prog 93 (#[Value.int .i64 x] ++ #[.pointer (some ⟨B, 0, none⟩)]) W fun e W' => e = .returned (.bool (!inB x 0 (s.signs - 1))) ∧ Below W.heap.size W W' := by
  obtain ⟨hB, h0, h1, h2, h3, h4⟩ := hbx
  obtain ⟨p, s, k, a, ra, rc, rs⟩ := s
  obtain ⟨q1, q2, q3, q4⟩ := hs
  simp only at *
  go_enter Try.func93, Try.ntmps93
  go_wp2_with (first | (go_at_call 67; refine (within_any _ _ _ _).mono ?_; rintro e w' ⟨rfl, rfl⟩))
  go_ret
  exact ⟨rfl, by (repeat (first | exact Below.refl _ _ | assumption | (refine Below.alloc ?_ (by first | omega | (simp; omega) | (simp; done)) _) | (refine Below.setCell ?_ (by first | omega | (simp; omega) | (simp; done)) _) | (refine Below.drew ?_) | (refine belowN ?_ _) | (refine Below.trans ?_ (Below.mono ‹Below _ _ _› (by first | omega | (simp; omega) | (simp; done))))))⟩
def chartB (s : Sch) (l : List Int) : Bool := decide ((l.length : Int) = s.places) && l.all (fun x => inB x 0 (s.signs - 1))
theorem isChart_any (s : Sch) (R : Value) (A : Option Addr) (c : Nat) (l : List Int) (w : World) (hs : Small s) (hl : l.length ≤ 1000000) (hr : Sl intCell 1 w w.heap.size A l) :
    Calls Try.prog 74 #[scv s R, .slice A l.length c] w fun e w' => e = .returned (.bool (chartB s l)) ∧ Below w.heap.size w w' := by
  by_cases h6 : (l.length : Int) = s.places
  · have d6 : ((l.length : Int) == s.places) = true := by simp [h6]
    have HC : ∀ (W : World) (B : Nat), Below w.heap.size w W → ScBox W B s R → Calls Try.prog 86 #[.slice A l.length c, .func (.func 93) #[] #[.pointer (some ⟨B, 0, none⟩)]] W fun e w' => e = .returned (.bool (l.any fun t => !inB t 0 (s.signs - 1))) ∧ Below W.heap.size W w' := by
      intro W B hW hB
      refine ints_any_any 93 _ A c l _ W ent_isChart1 hl ((hr.below hW).more hW.size) ?_
      intro t ht W' hW'
      exact isChart1_any s R t B W' hs (hB.below hW' hB.1)
    have HC := fun W B => Lib.hid (HC W B)
    have H6 := Lib.hid h6
    clear hr hs h6
    obtain ⟨p, sg, k, a, ra, rc, rs⟩ := s
    simp only at d6
    go_enter Try.func74, Try.ntmps74
    go_wp2_with fail
    refine ((HC _ w.heap.size).out (by (repeat (first | exact Below.refl _ _ | assumption | (refine Below.alloc ?_ (by first | omega | (simp; omega) | (simp; done)) _) | (refine Below.setCell ?_ (by first | omega | (simp; omega) | (simp; done)) _) | (refine Below.drew ?_) | (refine belowN ?_ _) | (refine Below.trans ?_ (Below.mono ‹Below _ _ _› (by first | omega | (simp; omega) | (simp; done))))))) ⟨by simp, by simp [go_sem], by simp [go_sem], by simp [go_sem], by simp [go_sem], by simp [go_sem]⟩).mono ?_
    rintro e w1 ⟨rfl, hb1⟩
    go_wp2
    go_ret
    exact ⟨ret_bool (by simp only [chartB, not_any_not]; simp [H6.out]), by (repeat (first | exact Below.refl _ _ | assumption | (refine Below.alloc ?_ (by first | omega | (simp; omega) | (simp; done)) _) | (refine Below.setCell ?_ (by first | omega | (simp; omega) | (simp; done)) _) | (refine Below.drew ?_) | (refine belowN ?_ _) | (refine Below.trans ?_ (Below.mono ‹Below _ _ _› (by first | omega | (simp; omega) | (simp; done))))))⟩
  · have d6 : ((l.length : Int) == s.places) = false := by simpa using h6
    clear hr hs
    obtain ⟨p, sg, k, a, ra, rc, rs⟩ := s
    simp only at d6 h6
    go_enter Try.func74, Try.ntmps74
    go_wp2_with fail
    go_ret
    exact ⟨ret_bool (by simp [chartB, h6]), by (repeat (first | exact Below.refl _ _ | assumption | (refine Below.alloc ?_ (by first | omega | (simp; omega) | (simp; done)) _) | (refine Below.setCell ?_ (by first | omega | (simp; omega) | (simp; done)) _) | (refine Below.drew ?_) | (refine belowN ?_ _) | (refine Below.trans ?_ (Below.mono ‹Below _ _ _› (by first | omega | (simp; omega) | (simp; done))))))⟩

/-- figure f is in the set x -/
def bitB (x f : Int) : Bool := x / 2 ^ f.toNat % 2 == 1
theorem bit_u64 (x f : Int) (hx : IsU64 x) : (bits BinOp.and IntKind.u64 (x / 2 ^ f.toNat) 1 == 0) = !bitB x f := by
  have h0 : (0 : Int) < 2 ^ f.toNat := Int.pow_pos (by omega)
  have h1 : 0 ≤ x / 2 ^ f.toNat := Int.ediv_nonneg hx.1 (by omega)
  have h2 : x / 2 ^ f.toNat ≤ x := Int.ediv_le_self _ hx.1
  have h3 := hx.2
  rw [and_one_u64 _ h1 (by omega)]
  unfold bitB
  have : x / 2 ^ f.toNat % 2 = 0 ∨ x / 2 ^ f.toNat % 2 = 1 := by omega
  rcases this with h | h <;> rw [h] <;> rfl
def hasB : List Int → List Int → Bool
  | x :: xs, f :: fs => bitB x f && hasB xs fs
  | _, _ => true
end Go.Proofs.Ytidlmbajpbbilaa
namespace Go.Proofs.Ytidlmbajpbbilaa
open Go.RowKit

theorem hasB_of (xs : List Int) : ∀ (fs : List Int), xs.length = fs.length → (∀ k, (h : k < fs.length) → (h' : k < xs.length) → bitB xs[k] fs[k] = true) → hasB xs fs = true := by
  induction xs with
  | nil => intro fs h _; cases fs <;> simp_all [hasB]
  | cons x xs ih =>
    intro fs h hh
    cases fs with
    | nil => rfl
    | cons f fs =>
      simp only [hasB, Bool.and_eq_true]
      refine ⟨by have := hh 0 (by simp) (by simp); simpa using this, ih fs (by simpa using h) fun k h1 h2 => ?_⟩
      have := hh (k + 1) (by simpa using h1) (by simpa using h2)
      simpa using this
theorem hasB_not (xs : List Int) : ∀ (fs : List Int) (k : Nat) (h : k < fs.length) (h' : k < xs.length), bitB xs[k] fs[k] = false → hasB xs fs = false := by
  induction xs with
  | nil => intro fs k h h'; simp at h'
  | cons x xs ih =>
    intro fs k h h' hh
    cases fs with
    | nil => simp at h
    | cons f fs =>
      simp only [hasB, Bool.and_eq_false_iff]
      cases k with
      | zero => left; simpa using hh
      | succ k => right; exact ih fs k (by simpa using h) (by simpa using h') (by simpa using hh)

set_option maxRecDepth 100000 in
theorem regHas_any (A A2 : Option Addr) (c c2 : Nat) (l fs : List Int) (w : World) (hl : fs.length ≤ 1000000) (hn : l.length = fs.length) (ho : ∀ x ∈ l, IsU64 x) (hf : ∀ x ∈ fs, 0 ≤ x ∧ x ≤ 63)
    (hr : Sl setCell1 1 w w.heap.size A l) (hr2 : Sl intCell 1 w w.heap.size A2 fs) :
    Calls Try.prog 54 #[.slice A l.length c, .slice A2 fs.length c2] w fun e w' => e = .returned (.bool (hasB l fs)) ∧ w = w' := by
  have HO := Lib.hid ho; have HF := Lib.hid hf; have HR := Lib.hid hr; have HR2 := Lib.hid hr2; have HN := Lib.hid hn
  clear ho hf hr hr2
  have hn1 : l.length ≤ fs.length := by omega
  have hn2 : fs.length ≤ l.length := by omega
  clear hn
  go_enter Try.func54, Try.ntmps54
  go_wp2
  go_loop [9] (fun i => ∃ k : Nat, k ≤ fs.length ∧ i = .int .i64 k ∧ Hid (∀ j, j < k → ∀ (hj : j < fs.length) (hj' : j < l.length), bitB l[j] fs[j] = true)) (fun i => fs.length - (intOf i).toNat)
  case atStart => exact ⟨0, by omega, rfl, fun j h => by omega⟩
  case round =>
    obtain ⟨k, hk, rfl, hno⟩ := hrel
    by_cases hlt : k < fs.length
    · have hlt2 : k < l.length := by omega
      obtain ⟨ab, ao, rfl, hblk, hcell⟩ := HR.out.at_ (k := k) (fun _ => rfl) hlt2
      obtain ⟨cb, co, rfl, hblk2, hcell2⟩ := HR2.out.at_ (k := k) (fun _ => rfl) hlt
      obtain ⟨x, hx⟩ : ∃ t, l[k] = t := ⟨_, rfl⟩
      obtain ⟨f, hf⟩ : ∃ t, fs[k] = t := ⟨_, rfl⟩
      rw [hx] at hcell
      rw [hf] at hcell2
      have hxb := HO.out x (hx ▸ List.getElem_mem hlt2)
      have hfb := HF.out f (hf ▸ List.getElem_mem hlt)
      have HB := Lib.hid (bit_u64 x f hxb)
      unfold IsU64 at hxb
      have c0 : w.cell? ⟨ab, ao + k, none⟩ = some (.int .u64 x) := by have := hcell 0 _ rfl; simpa using this
      have c1 : w.cell? ⟨cb, co + k, none⟩ = some (.int .i64 f) := by have := hcell2 0 _ rfl; simpa using this
      clear hcell hcell2
      have HX := Lib.hid hx; have HFF := Lib.hid hf
      clear hx hf
      by_cases hbit : bitB x f = true
      · have hq : (bits BinOp.and IntKind.u64 (x / 2 ^ f.toNat) 1 == 0) = false := by rw [HB.out, hbit]; rfl
        go_wp2
        go_round
        case rel => exact ⟨k + 1, by omega, by go_num, upto_succ hno (fun _ _ => by rw [HX.out, HFF.out]; exact hbit)⟩
        case measure => simp [intOf]; omega
      · simp only [Bool.not_eq_true] at hbit
        have hq : (bits BinOp.and IntKind.u64 (x / 2 ^ f.toNat) 1 == 0) = true := by rw [HB.out, hbit]; rfl
        go_wp2
        go_ret
        exact ⟨ret_bool (hasB_not l fs k hlt hlt2 (by rw [HX.out, HFF.out]; exact hbit)).symm, rfl⟩
    · go_wp2
      go_ret
      obtain rfl : k = fs.length := by omega
      exact ⟨ret_bool (hasB_of l fs HN.out fun j h1 h2 => hno.out j h1 h1 h2).symm, rfl⟩

/-- does a test hold for a chart -/
def holdB (ch : List Int) (t : Tst) : Bool :=
  let f := ch.getD t.place.toNat 0
  let g := ch.getD t.other.toNat 0
  if t.kind == 1 then bitB t.set f else if t.kind == 2 then f == g else f != g
/-- a test that a school with so many places may have -/
def TestFit (n : Nat) (t : Tst) : Prop := t.ok ∧ 0 ≤ t.place ∧ t.place < n ∧ 0 ≤ t.other ∧ t.other < n
theorem ent_holds1 : Ent 92 := ent_of Try.func92 (by kernel_rfl) rfl
set_option maxRecDepth 100000 in
theorem holds1_any (A : Option Addr) (c : Nat) (ch : List Int) (t : Tst) (B : Nat) (W : World) (n : Nat) (hn : n = ch.length) (ht : TestFit n t) (hf : ∀ x ∈ ch, 0 ≤ x ∧ x ≤ 63) (hbx : W.cell? ⟨B, 0, none⟩ = some (.slice A ch.length c)) (hB : B < W.heap.size)
    (hr : Sl intCell 1 W W.heap.size A ch) :
    Calls Try.prog 92 (#[Value.agg #[.int .i64 t.kind, .int .i64 t.place, .int .i64 t.other, .int .u64 t.set]] ++ #[.pointer (some ⟨B, 0, none⟩)]) W fun e W' => e = .returned (.bool (!holdB ch t)) ∧ Below W.heap.size W W' := by
  obtain ⟨ht0, hp0, hp1, hq0, hq1⟩ := ht
  have hu := ht0.2
  obtain ⟨tk, tp, to, ts⟩ := t
  simp only at *
  obtain ⟨p, rfl⟩ := Int.eq_ofNat_of_zero_le hp0
  obtain ⟨q, rfl⟩ := Int.eq_ofNat_of_zero_le hq0
  have hpl : p < ch.length := by omega
  have hql : q < ch.length := by omega
  obtain ⟨ab, ao, rfl, hblk, hcell⟩ := hr.at_ (k := p) (fun _ => rfl) hpl
  obtain ⟨ab', ao', e, hblk', hcell'⟩ := hr.at_ (k := q) (fun _ => rfl) hql
  cases e
  have hfb := hf _ (List.getElem_mem hpl)
  obtain ⟨f, hfe⟩ : ∃ t, ch[p] = t := ⟨_, rfl⟩
  obtain ⟨g, hge⟩ : ∃ t, ch[q] = t := ⟨_, rfl⟩
  have e1 : ch.getD p 0 = f := by rw [← hfe]; simp [List.getD, List.getElem?_eq_getElem hpl]
  have e2 : ch.getD q 0 = g := by rw [← hge]; simp [List.getD, List.getElem?_eq_getElem hql]
  rw [hfe] at hcell hfb
  rw [hge] at hcell'
  have c0 : W.cell? ⟨ab, ao + p, none⟩ = some (.int .i64 f) := by have := hcell 0 _ rfl; simpa using this
  have c1 : W.cell? ⟨ab, ao + q, none⟩ = some (.int .i64 g) := by have := hcell' 0 _ rfl; simpa using this
  have E : holdB ch ⟨tk, p, q, ts⟩ = if tk == 1 then bitB ts f else if tk == 2 then f == g else f != g := by simp only [holdB, Int.toNat_natCast, e1, e2]
  rw [E]
  obtain ⟨L, hL⟩ : ∃ L, L = ch.length := ⟨_, rfl⟩
  rw [← hL] at hbx hpl hql
  clear hcell hcell' hfe hge e1 e2 hr hf hn ht0 E hL hp0 hp1 hq0 hq1
  by_cases k1 : (tk == 1) = true
  · go_enter Try.func92, Try.ntmps92
    go_wp2
    go_ret
    refine ⟨ret_bool ?_, by (repeat (first | exact Below.refl _ _ | assumption | (refine Below.alloc ?_ (by first | omega | (simp; omega) | (simp; done)) _) | (refine Below.setCell ?_ (by first | omega | (simp; omega) | (simp; done)) _) | (refine Below.drew ?_) | (refine belowN ?_ _) | (refine Below.trans ?_ (Below.mono ‹Below _ _ _› (by first | omega | (simp; omega) | (simp; done))))))⟩
    exact bit_u64 ts f hu
  · simp only [Bool.not_eq_true] at k1
    by_cases k2 : (tk == 2) = true
    · go_enter Try.func92, Try.ntmps92
      go_wp2
      go_ret
      refine ⟨ret_bool ?_, by (repeat (first | exact Below.refl _ _ | assumption | (refine Below.alloc ?_ (by first | omega | (simp; omega) | (simp; done)) _) | (refine Below.setCell ?_ (by first | omega | (simp; omega) | (simp; done)) _) | (refine Below.drew ?_) | (refine belowN ?_ _) | (refine Below.trans ?_ (Below.mono ‹Below _ _ _› (by first | omega | (simp; omega) | (simp; done))))))⟩
      first | rfl | simp
    · simp only [Bool.not_eq_true] at k2
      go_enter Try.func92, Try.ntmps92
      go_wp2
      go_ret
      refine ⟨ret_bool ?_, by (repeat (first | exact Below.refl _ _ | assumption | (refine Below.alloc ?_ (by first | omega | (simp; omega) | (simp; done)) _) | (refine Below.setCell ?_ (by first | omega | (simp; omega) | (simp; done)) _) | (refine Below.drew ?_) | (refine belowN ?_ _) | (refine Below.trans ?_ (Below.mono ‹Below _ _ _› (by first | omega | (simp; omega) | (simp; done))))))⟩
      simp [bne]

def holdsB (ch : List Int) (ts : List Tst) : Bool := ts.all (holdB ch)
theorem holds_any (A A2 : Option Addr) (c c2 : Nat) (ch : List Int) (ts : List Tst) (w : World) (n : Nat) (hn : n = ch.length) (hl : ts.length ≤ 1000000) (ho : ∀ t ∈ ts, TestFit n t) (hf : ∀ x ∈ ch, 0 ≤ x ∧ x ≤ 63)
    (hr : Sl Tst.cells 4 w w.heap.size A ts) (hr2 : Sl intCell 1 w w.heap.size A2 ch) :
    Calls Try.prog 69 #[.slice A ts.length c, .slice A2 ch.length c2] w fun e w' => e = .returned (.bool (holdsB ch ts)) ∧ Below w.heap.size w w' := by
  have HC : ∀ (W : World) (B : Nat), Below w.heap.size w W → B < W.heap.size → W.cell? ⟨B, 0, none⟩ = some (.slice A2 ch.length c2) → Calls Try.prog 89 #[.slice A ts.length c, .func (.func 92) #[] #[.pointer (some ⟨B, 0, none⟩)]] W fun e w' => e = .returned (.bool (ts.any fun t => !holdB ch t)) ∧ Below W.heap.size W w' := by
    intro W B hW hB hBc
    refine tests_any_any 92 _ A c ts _ W ent_holds1 hl ((hr.below hW).more hW.size) ?_
    intro t ht W' hW'
    exact holds1_any A2 c2 ch t B W' n hn (ho t ht) hf (by rw [hW'.cell (p := ⟨B, 0, none⟩) hB]; exact hBc) (by have := hW'.size; omega) ((hr2.below (hW.trans (hW'.mono hW.size))).more (by have := hW'.size; have := hW.size; omega))
  have HC := fun W B => Lib.hid (HC W B)
  clear ho hf hr hr2 hn
  go_enter Try.func69, Try.ntmps69
  go_wp2_with fail
  refine ((HC _ w.heap.size).out (by (repeat (first | exact Below.refl _ _ | assumption | (refine Below.alloc ?_ (by first | omega | (simp; omega) | (simp; done)) _) | (refine Below.setCell ?_ (by first | omega | (simp; omega) | (simp; done)) _) | (refine Below.drew ?_) | (refine belowN ?_ _) | (refine Below.trans ?_ (Below.mono ‹Below _ _ _› (by first | omega | (simp; omega) | (simp; done))))))) (by simp) (by simp [go_sem])).mono ?_
  rintro e w1 ⟨rfl, hb1⟩
  go_wp2
  go_ret
  exact ⟨ret_bool (by simp only [holdsB, not_any_not]), by (repeat (first | exact Below.refl _ _ | assumption | (refine Below.alloc ?_ (by first | omega | (simp; omega) | (simp; done)) _) | (refine Below.setCell ?_ (by first | omega | (simp; omega) | (simp; done)) _) | (refine Below.drew ?_) | (refine belowN ?_ _) | (refine Below.trans ?_ (Below.mono ‹Below _ _ _› (by first | omega | (simp; omega) | (simp; done))))))⟩
end Go.Proofs.Ytidlmbajpbbilaa

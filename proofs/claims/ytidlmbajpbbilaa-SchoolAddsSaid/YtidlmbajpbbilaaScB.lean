/- School: slices.IndexFunc and ContainsFunc at each element type (made by gen_idx.py). -/
import Derived.Test.YtidlmbajpbbilaaScA
namespace Go.Proofs.Ytidlmbajpbbilaa
open Go.RowKit
abbrev intCell (x : Int) : List Value := [.int .i64 x]
abbrev setCell1 (x : Int) : List Value := [.int .u64 x]
/-- a case of a commentary: the slice of its tests as a value, the tests, what it says -/
structure Cas where
  v : Value
  when_ : List Tst
  says : Int
abbrev Cas.cells (t : Cas) : List Value := [t.v, .int .i64 t.says]

set_option maxRecDepth 100000 in
theorem tests_idx_any (g : Nat) (cap : Array Value) (A : Option Addr) (c : Nat) (ts : List Tst) (p : Tst → Bool) (w : World)
    (hg : Ent g) (hl : ts.length ≤ 1000000) (hr : Sl Tst.cells 4 w w.heap.size A ts)
    (hf : ∀ t ∈ ts, ∀ W, Below w.heap.size w W → Calls Try.prog g (#[Value.agg #[(Value.int .i64 t.kind), (Value.int .i64 t.place), (Value.int .i64 t.other), (Value.int .u64 t.set)]] ++ cap) W fun e W' => e = .returned (.bool (p t)) ∧ Below W.heap.size W W') :
    Calls Try.prog 98 #[.slice A ts.length c, .func (.func g) #[] cap] w fun e w' => e = .returned (.int .i64 (firstIdx p ts)) ∧ Below w.heap.size w w' := by
  unfold Ent at hg
  have HF := Lib.hid hf; clear hf
  have HR := Lib.hid hr; clear hr
  go_enter Try.func98, Try.ntmps98
  go_wp2
  go_loopw [8] (fun i wr => ∃ k : Nat, k ≤ ts.length ∧ i = .int .i64 k ∧ Below w.heap.size w wr ∧ Hid (∀ j, (hj : j < ts.length) → j < k → p ts[j] = false)) (fun i _ => ts.length - (intOf i).toNat)
  case atStart => exact ⟨0, by omega, rfl, Below.refl _ _, fun j _ h => by omega⟩
  case round =>
    obtain ⟨k, hk, rfl, hb, hno⟩ := hrel
    by_cases hlt : k < ts.length
    · obtain ⟨ab, ao, rfl, hblk, hcell⟩ := (Sl.below HR.out hb).at_ (k := k) (fun _ => rfl) hlt
      obtain ⟨t, ht⟩ : ∃ t, ts[k] = t := ⟨_, rfl⟩
      rw [ht] at hcell
      have HM := Lib.hid (show t ∈ ts from ht ▸ List.getElem_mem hlt)
      have HT := Lib.hid ht; clear ht
      have c0 : wr.cell? ⟨ab, ao + k * 4, none⟩ = some (Value.int .i64 t.kind) := hcell 0 _ rfl
      have c1 : wr.cell? ⟨ab, ao + k * 4 + 1, none⟩ = some (Value.int .i64 t.place) := hcell 1 _ rfl
      have c2 : wr.cell? ⟨ab, ao + k * 4 + 2, none⟩ = some (Value.int .i64 t.other) := hcell 2 _ rfl
      have c3 : wr.cell? ⟨ab, ao + k * 4 + 3, none⟩ = some (Value.int .u64 t.set) := hcell 3 _ rfl
      clear hcell
      go_wp2_with fail
      refine (HF.out t HM.out wr hb).mono ?_
      rintro e w1 ⟨rfl, hb1⟩
      have hz := hb.size
      by_cases hp : p t = true
      · rw [hp]
        go_wp2
        go_ret
        exact ⟨ret_int (firstIdx_at p ts k hlt (fun j hj => hno.out j (by omega) hj) (HT.out ▸ hp)).symm, by (repeat (first | exact Below.refl _ _ | assumption | (refine Below.alloc ?_ (by first | omega | (simp; omega) | (simp; done)) _) | (refine Below.setCell ?_ (by first | omega | (simp; omega) | (simp; done)) _) | (refine Below.drew ?_) | (refine belowN ?_ _) | (refine Below.trans ?_ (Below.mono ‹Below _ _ _› (by first | omega | (simp; omega) | (simp; done))))))⟩
      · simp only [Bool.not_eq_true] at hp
        rw [hp]
        go_wp2
        go_roundw
        case rel => exact ⟨k + 1, by omega, by go_num, by (repeat (first | exact Below.refl _ _ | assumption | (refine Below.alloc ?_ (by first | omega | (simp; omega) | (simp; done)) _) | (refine Below.setCell ?_ (by first | omega | (simp; omega) | (simp; done)) _) | (refine Below.drew ?_) | (refine belowN ?_ _) | (refine Below.trans ?_ (Below.mono ‹Below _ _ _› (by first | omega | (simp; omega) | (simp; done)))))), fun j hj hj' => if h : j < k then hno.out j hj h else by obtain rfl : j = k := (by omega); exact HT.out ▸ hp⟩
        case measure => simp [intOf]; omega
    · go_wp2
      go_ret
      obtain rfl : k = ts.length := by omega
      exact ⟨ret_int (firstIdx_none p ts (fun j hj => hno.out j hj hj)).symm, hb⟩

theorem tests_any_any (g : Nat) (cap : Array Value) (A : Option Addr) (c : Nat) (ts : List Tst) (p : Tst → Bool) (w : World)
    (hg : Ent g) (hl : ts.length ≤ 1000000) (hr : Sl Tst.cells 4 w w.heap.size A ts)
    (hf : ∀ t ∈ ts, ∀ W, Below w.heap.size w W → Calls Try.prog g (#[Value.agg #[(Value.int .i64 t.kind), (Value.int .i64 t.place), (Value.int .i64 t.other), (Value.int .u64 t.set)]] ++ cap) W fun e W' => e = .returned (.bool (p t)) ∧ Below W.heap.size W W') :
    Calls Try.prog 89 #[.slice A ts.length c, .func (.func g) #[] cap] w fun e w' => e = .returned (.bool (ts.any p)) ∧ Below w.heap.size w w' := by
  have H := Lib.hid (tests_idx_any g cap A c ts p w hg hl hr hf)
  clear hf hr hl hg
  go_enter Try.func89, Try.ntmps89
  go_wp2_with fail
  refine H.out.mono ?_
  rintro e w1 ⟨rfl, hb1⟩
  go_wp2
  go_ret
  exact ⟨ret_bool (by rw [← firstIdx_any]), hb1⟩

set_option maxRecDepth 100000 in
theorem ints_idx_any (g : Nat) (cap : Array Value) (A : Option Addr) (c : Nat) (ts : List Int) (p : Int → Bool) (w : World)
    (hg : Ent g) (hl : ts.length ≤ 1000000) (hr : Sl intCell 1 w w.heap.size A ts)
    (hf : ∀ t ∈ ts, ∀ W, Below w.heap.size w W → Calls Try.prog g (#[Value.int .i64 t] ++ cap) W fun e W' => e = .returned (.bool (p t)) ∧ Below W.heap.size W W') :
    Calls Try.prog 97 #[.slice A ts.length c, .func (.func g) #[] cap] w fun e w' => e = .returned (.int .i64 (firstIdx p ts)) ∧ Below w.heap.size w w' := by
  unfold Ent at hg
  have HF := Lib.hid hf; clear hf
  have HR := Lib.hid hr; clear hr
  go_enter Try.func97, Try.ntmps97
  go_wp2
  go_loopw [8] (fun i wr => ∃ k : Nat, k ≤ ts.length ∧ i = .int .i64 k ∧ Below w.heap.size w wr ∧ Hid (∀ j, (hj : j < ts.length) → j < k → p ts[j] = false)) (fun i _ => ts.length - (intOf i).toNat)
  case atStart => exact ⟨0, by omega, rfl, Below.refl _ _, fun j _ h => by omega⟩
  case round =>
    obtain ⟨k, hk, rfl, hb, hno⟩ := hrel
    by_cases hlt : k < ts.length
    · obtain ⟨ab, ao, rfl, hblk, hcell⟩ := (Sl.below HR.out hb).at_ (k := k) (fun _ => rfl) hlt
      obtain ⟨t, ht⟩ : ∃ t, ts[k] = t := ⟨_, rfl⟩
      rw [ht] at hcell
      have HM := Lib.hid (show t ∈ ts from ht ▸ List.getElem_mem hlt)
      have HT := Lib.hid ht; clear ht
      have c0 : wr.cell? ⟨ab, ao + k, none⟩ = some (Value.int .i64 t) := by have := hcell 0 _ rfl; simpa using this
      clear hcell
      go_wp2_with fail
      refine (HF.out t HM.out wr hb).mono ?_
      rintro e w1 ⟨rfl, hb1⟩
      have hz := hb.size
      by_cases hp : p t = true
      · rw [hp]
        go_wp2
        go_ret
        exact ⟨ret_int (firstIdx_at p ts k hlt (fun j hj => hno.out j (by omega) hj) (HT.out ▸ hp)).symm, by (repeat (first | exact Below.refl _ _ | assumption | (refine Below.alloc ?_ (by first | omega | (simp; omega) | (simp; done)) _) | (refine Below.setCell ?_ (by first | omega | (simp; omega) | (simp; done)) _) | (refine Below.drew ?_) | (refine belowN ?_ _) | (refine Below.trans ?_ (Below.mono ‹Below _ _ _› (by first | omega | (simp; omega) | (simp; done))))))⟩
      · simp only [Bool.not_eq_true] at hp
        rw [hp]
        go_wp2
        go_roundw
        case rel => exact ⟨k + 1, by omega, by go_num, by (repeat (first | exact Below.refl _ _ | assumption | (refine Below.alloc ?_ (by first | omega | (simp; omega) | (simp; done)) _) | (refine Below.setCell ?_ (by first | omega | (simp; omega) | (simp; done)) _) | (refine Below.drew ?_) | (refine belowN ?_ _) | (refine Below.trans ?_ (Below.mono ‹Below _ _ _› (by first | omega | (simp; omega) | (simp; done)))))), fun j hj hj' => if h : j < k then hno.out j hj h else by obtain rfl : j = k := (by omega); exact HT.out ▸ hp⟩
        case measure => simp [intOf]; omega
    · go_wp2
      go_ret
      obtain rfl : k = ts.length := by omega
      exact ⟨ret_int (firstIdx_none p ts (fun j hj => hno.out j hj hj)).symm, hb⟩

theorem ints_any_any (g : Nat) (cap : Array Value) (A : Option Addr) (c : Nat) (ts : List Int) (p : Int → Bool) (w : World)
    (hg : Ent g) (hl : ts.length ≤ 1000000) (hr : Sl intCell 1 w w.heap.size A ts)
    (hf : ∀ t ∈ ts, ∀ W, Below w.heap.size w W → Calls Try.prog g (#[Value.int .i64 t] ++ cap) W fun e W' => e = .returned (.bool (p t)) ∧ Below W.heap.size W W') :
    Calls Try.prog 86 #[.slice A ts.length c, .func (.func g) #[] cap] w fun e w' => e = .returned (.bool (ts.any p)) ∧ Below w.heap.size w w' := by
  have H := Lib.hid (ints_idx_any g cap A c ts p w hg hl hr hf)
  clear hf hr hl hg
  go_enter Try.func86, Try.ntmps86
  go_wp2_with fail
  refine H.out.mono ?_
  rintro e w1 ⟨rfl, hb1⟩
  go_wp2
  go_ret
  exact ⟨ret_bool (by rw [← firstIdx_any]), hb1⟩

set_option maxRecDepth 100000 in
theorem sets_idx_any (g : Nat) (cap : Array Value) (A : Option Addr) (c : Nat) (ts : List Int) (p : Int → Bool) (w : World)
    (hg : Ent g) (hl : ts.length ≤ 1000000) (hr : Sl setCell1 1 w w.heap.size A ts)
    (hf : ∀ t ∈ ts, ∀ W, Below w.heap.size w W → Calls Try.prog g (#[Value.int .u64 t] ++ cap) W fun e W' => e = .returned (.bool (p t)) ∧ Below W.heap.size W W') :
    Calls Try.prog 96 #[.slice A ts.length c, .func (.func g) #[] cap] w fun e w' => e = .returned (.int .i64 (firstIdx p ts)) ∧ Below w.heap.size w w' := by
  unfold Ent at hg
  have HF := Lib.hid hf; clear hf
  have HR := Lib.hid hr; clear hr
  go_enter Try.func96, Try.ntmps96
  go_wp2
  go_loopw [8] (fun i wr => ∃ k : Nat, k ≤ ts.length ∧ i = .int .i64 k ∧ Below w.heap.size w wr ∧ Hid (∀ j, (hj : j < ts.length) → j < k → p ts[j] = false)) (fun i _ => ts.length - (intOf i).toNat)
  case atStart => exact ⟨0, by omega, rfl, Below.refl _ _, fun j _ h => by omega⟩
  case round =>
    obtain ⟨k, hk, rfl, hb, hno⟩ := hrel
    by_cases hlt : k < ts.length
    · obtain ⟨ab, ao, rfl, hblk, hcell⟩ := (Sl.below HR.out hb).at_ (k := k) (fun _ => rfl) hlt
      obtain ⟨t, ht⟩ : ∃ t, ts[k] = t := ⟨_, rfl⟩
      rw [ht] at hcell
      have HM := Lib.hid (show t ∈ ts from ht ▸ List.getElem_mem hlt)
      have HT := Lib.hid ht; clear ht
      have c0 : wr.cell? ⟨ab, ao + k, none⟩ = some (Value.int .u64 t) := by have := hcell 0 _ rfl; simpa using this
      clear hcell
      go_wp2_with fail
      refine (HF.out t HM.out wr hb).mono ?_
      rintro e w1 ⟨rfl, hb1⟩
      have hz := hb.size
      by_cases hp : p t = true
      · rw [hp]
        go_wp2
        go_ret
        exact ⟨ret_int (firstIdx_at p ts k hlt (fun j hj => hno.out j (by omega) hj) (HT.out ▸ hp)).symm, by (repeat (first | exact Below.refl _ _ | assumption | (refine Below.alloc ?_ (by first | omega | (simp; omega) | (simp; done)) _) | (refine Below.setCell ?_ (by first | omega | (simp; omega) | (simp; done)) _) | (refine Below.drew ?_) | (refine belowN ?_ _) | (refine Below.trans ?_ (Below.mono ‹Below _ _ _› (by first | omega | (simp; omega) | (simp; done))))))⟩
      · simp only [Bool.not_eq_true] at hp
        rw [hp]
        go_wp2
        go_roundw
        case rel => exact ⟨k + 1, by omega, by go_num, by (repeat (first | exact Below.refl _ _ | assumption | (refine Below.alloc ?_ (by first | omega | (simp; omega) | (simp; done)) _) | (refine Below.setCell ?_ (by first | omega | (simp; omega) | (simp; done)) _) | (refine Below.drew ?_) | (refine belowN ?_ _) | (refine Below.trans ?_ (Below.mono ‹Below _ _ _› (by first | omega | (simp; omega) | (simp; done)))))), fun j hj hj' => if h : j < k then hno.out j hj h else by obtain rfl : j = k := (by omega); exact HT.out ▸ hp⟩
        case measure => simp [intOf]; omega
    · go_wp2
      go_ret
      obtain rfl : k = ts.length := by omega
      exact ⟨ret_int (firstIdx_none p ts (fun j hj => hno.out j hj hj)).symm, hb⟩

theorem sets_any_any (g : Nat) (cap : Array Value) (A : Option Addr) (c : Nat) (ts : List Int) (p : Int → Bool) (w : World)
    (hg : Ent g) (hl : ts.length ≤ 1000000) (hr : Sl setCell1 1 w w.heap.size A ts)
    (hf : ∀ t ∈ ts, ∀ W, Below w.heap.size w W → Calls Try.prog g (#[Value.int .u64 t] ++ cap) W fun e W' => e = .returned (.bool (p t)) ∧ Below W.heap.size W W') :
    Calls Try.prog 82 #[.slice A ts.length c, .func (.func g) #[] cap] w fun e w' => e = .returned (.bool (ts.any p)) ∧ Below w.heap.size w w' := by
  have H := Lib.hid (sets_idx_any g cap A c ts p w hg hl hr hf)
  clear hf hr hl hg
  go_enter Try.func82, Try.ntmps82
  go_wp2_with fail
  refine H.out.mono ?_
  rintro e w1 ⟨rfl, hb1⟩
  go_wp2
  go_ret
  exact ⟨ret_bool (by rw [← firstIdx_any]), hb1⟩

set_option maxRecDepth 100000 in
theorem cases_idx_any (g : Nat) (cap : Array Value) (A : Option Addr) (c : Nat) (ts : List Cas) (p : Cas → Bool) (w : World)
    (hg : Ent g) (hl : ts.length ≤ 1000000) (hr : Sl Cas.cells 2 w w.heap.size A ts)
    (hf : ∀ t ∈ ts, ∀ W, Below w.heap.size w W → Calls Try.prog g (#[Value.agg #[(t.v), (Value.int .i64 t.says)]] ++ cap) W fun e W' => e = .returned (.bool (p t)) ∧ Below W.heap.size W W') :
    Calls Try.prog 70 #[.slice A ts.length c, .func (.func g) #[] cap] w fun e w' => e = .returned (.int .i64 (firstIdx p ts)) ∧ Below w.heap.size w w' := by
  unfold Ent at hg
  have HF := Lib.hid hf; clear hf
  have HR := Lib.hid hr; clear hr
  go_enter Try.func70, Try.ntmps70
  go_wp2
  go_loopw [8] (fun i wr => ∃ k : Nat, k ≤ ts.length ∧ i = .int .i64 k ∧ Below w.heap.size w wr ∧ Hid (∀ j, (hj : j < ts.length) → j < k → p ts[j] = false)) (fun i _ => ts.length - (intOf i).toNat)
  case atStart => exact ⟨0, by omega, rfl, Below.refl _ _, fun j _ h => by omega⟩
  case round =>
    obtain ⟨k, hk, rfl, hb, hno⟩ := hrel
    by_cases hlt : k < ts.length
    · obtain ⟨ab, ao, rfl, hblk, hcell⟩ := (Sl.below HR.out hb).at_ (k := k) (fun _ => rfl) hlt
      obtain ⟨t, ht⟩ : ∃ t, ts[k] = t := ⟨_, rfl⟩
      rw [ht] at hcell
      have HM := Lib.hid (show t ∈ ts from ht ▸ List.getElem_mem hlt)
      have HT := Lib.hid ht; clear ht
      have c0 : wr.cell? ⟨ab, ao + k * 2, none⟩ = some (t.v) := hcell 0 _ rfl
      have c1 : wr.cell? ⟨ab, ao + k * 2 + 1, none⟩ = some (Value.int .i64 t.says) := hcell 1 _ rfl
      clear hcell
      go_wp2_with fail
      refine (HF.out t HM.out wr hb).mono ?_
      rintro e w1 ⟨rfl, hb1⟩
      have hz := hb.size
      by_cases hp : p t = true
      · rw [hp]
        go_wp2
        go_ret
        exact ⟨ret_int (firstIdx_at p ts k hlt (fun j hj => hno.out j (by omega) hj) (HT.out ▸ hp)).symm, by (repeat (first | exact Below.refl _ _ | assumption | (refine Below.alloc ?_ (by first | omega | (simp; omega) | (simp; done)) _) | (refine Below.setCell ?_ (by first | omega | (simp; omega) | (simp; done)) _) | (refine Below.drew ?_) | (refine belowN ?_ _) | (refine Below.trans ?_ (Below.mono ‹Below _ _ _› (by first | omega | (simp; omega) | (simp; done))))))⟩
      · simp only [Bool.not_eq_true] at hp
        rw [hp]
        go_wp2
        go_roundw
        case rel => exact ⟨k + 1, by omega, by go_num, by (repeat (first | exact Below.refl _ _ | assumption | (refine Below.alloc ?_ (by first | omega | (simp; omega) | (simp; done)) _) | (refine Below.setCell ?_ (by first | omega | (simp; omega) | (simp; done)) _) | (refine Below.drew ?_) | (refine belowN ?_ _) | (refine Below.trans ?_ (Below.mono ‹Below _ _ _› (by first | omega | (simp; omega) | (simp; done)))))), fun j hj hj' => if h : j < k then hno.out j hj h else by obtain rfl : j = k := (by omega); exact HT.out ▸ hp⟩
        case measure => simp [intOf]; omega
    · go_wp2
      go_ret
      obtain rfl : k = ts.length := by omega
      exact ⟨ret_int (firstIdx_none p ts (fun j hj => hno.out j hj hj)).symm, hb⟩

theorem cases_any_any (g : Nat) (cap : Array Value) (A : Option Addr) (c : Nat) (ts : List Cas) (p : Cas → Bool) (w : World)
    (hg : Ent g) (hl : ts.length ≤ 1000000) (hr : Sl Cas.cells 2 w w.heap.size A ts)
    (hf : ∀ t ∈ ts, ∀ W, Below w.heap.size w W → Calls Try.prog g (#[Value.agg #[(t.v), (Value.int .i64 t.says)]] ++ cap) W fun e W' => e = .returned (.bool (p t)) ∧ Below W.heap.size W W') :
    Calls Try.prog 64 #[.slice A ts.length c, .func (.func g) #[] cap] w fun e w' => e = .returned (.bool (ts.any p)) ∧ Below w.heap.size w w' := by
  have H := Lib.hid (cases_idx_any g cap A c ts p w hg hl hr hf)
  clear hf hr hl hg
  go_enter Try.func64, Try.ntmps64
  go_wp2_with fail
  refine H.out.mono ?_
  rintro e w1 ⟨rfl, hb1⟩
  go_wp2
  go_ret
  exact ⟨ret_bool (by rw [← firstIdx_any]), hb1⟩
end Go.Proofs.Ytidlmbajpbbilaa

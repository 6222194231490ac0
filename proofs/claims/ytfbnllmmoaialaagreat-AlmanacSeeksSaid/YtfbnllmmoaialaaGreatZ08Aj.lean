/- almanac: LunarDay. -/
import Derived.Test.YtfbnllmmoaialaaGreatAi
namespace Go.Proofs.YtfbnllmmoaialaaGreat
open Go.RowKit

/-- the number of the month of a date -/
def monN (r : Lun) (x : LDate) : Int := if longM r x.y && (decide (r.l < x.m) || x.k) then FI r x.y + x.m - 1 + 1 else FI r x.y + x.m - 1
def badL (r : Lun) (x : LDate) : Bool := !(inB x.m 1 12) || ((x.k && (!(longM r x.y) || x.m != r.l)) || !(inB x.d 1 (BI r (monN r x + 1) - BI r (monN r x))))
/-- the day of a date by the moon, or the error -/
def ldayR (r : Lun) (x : LDate) : Int × Int :=
  if lunB r then (if inB x.y 0 4000 then (if badL r x then (0, 7) else (if inB (BI r (monN r x) + x.d - 1) 0 1000000 then (BI r (monN r x) + x.d - 1, 0) else (0, 3))) else (0, 3)) else (0, 2)
end Go.Proofs.YtfbnllmmoaialaaGreat
namespace Go.Proofs.YtfbnllmmoaialaaGreat
open Go.RowKit

/-- a test for days -/
structure DTs where
  kind : Int
  which : Int
  set : Int
  fr : Int
  to_ : Int
def DTs.cells (t : DTs) : List Value := [.int .i64 t.kind, .int .i64 t.which, .int .u64 t.set, .int .i64 t.fr, .int .i64 t.to_]
/-- a rule for days, with the address of its tests -/
structure DRl where
  wa : Option Addr
  wc : Nat
  when_ : List DTs
  allow : Bool
def DRl.cells (r : DRl) : List Value := [.slice r.wa r.when_.length r.wc, .bool r.allow]
/-- the rules of a person -/
structure DPs where
  a : Option Addr
  c : Nat
  rules : List DRl
def DPs.cells (p : DPs) : List Value := [.slice p.a p.rules.length p.c]

set_option maxRecDepth 100000 in
theorem cidx_any (g : Nat) (cap : Array Value) (A : Option Addr) (c : Nat) (ts : List Cyc) (p : Cyc → Bool) (w : World)
    (hg : Ent g) (hl : ts.length ≤ 1000000) (hr : Sl Cyc.cells 2 w w.heap.size A ts)
    (hf : ∀ t ∈ ts, ∀ W, Below w.heap.size w W → Calls Tryz.prog g (#[Value.agg #[(.int .i64 t.l), (.int .i64 t.s)]] ++ cap) W fun e W' => e = .returned (.bool (p t)) ∧ Below W.heap.size W W') :
    Calls Tryz.prog 94 #[.slice A ts.length c, .func (.func g) #[] cap] w fun e w' => e = .returned (.int .i64 (firstIdx p ts)) ∧ Below w.heap.size w w' := by
  unfold Ent at hg
  have HF := Lib.hid hf; clear hf
  have HR := Lib.hid hr; clear hr
  go_enter Tryz.func94, Tryz.ntmps94
  go_wp2
  go_loopw [8] (fun i wr => ∃ k : Nat, k ≤ ts.length ∧ i = .int .i64 k ∧ Below w.heap.size w wr ∧ Hid (∀ j, (hj : j < ts.length) → j < k → p ts[j] = false)) (fun i _ => ts.length - (intOf i).toNat)
  case atStart => exact ⟨0, by omega, rfl, Below.refl _ _, fun j _ h => by omega⟩
  case round =>
    obtain ⟨k, hk, rfl, hb, hno⟩ := hrel
    by_cases hlt : k < ts.length
    · obtain ⟨ab, ao, rfl, hblk, hcell⟩ := (Sl.below HR.out hb).at_ (k := k) (fun _ => rfl) hlt
      obtain ⟨t, ht⟩ : ∃ t, ts[k] = t := ⟨_, rfl⟩
      rw [ht] at hcell
      have HM := Lib.hid (show t ∈ ts from ht ▸ List.getElem_mem hlt)
      have HT := Lib.hid ht; clear ht
      have c0 : wr.cell? ⟨ab, ao + k * 2, none⟩ = some (.int .i64 t.l) := hcell 0 _ rfl
      have c1 : wr.cell? ⟨ab, ao + k * 2 + 1, none⟩ = some (.int .i64 t.s) := hcell 1 _ rfl
      clear hcell
      go_wp2_with fail
      refine (HF.out t HM.out wr hb).mono ?_
      rintro e w1 ⟨rfl, hb1⟩
      have hz := hb.size
      by_cases hp : p t = true
      · rw [hp]
        go_wp2
        go_ret
        exact ⟨ret_int (firstIdx_at p ts k hlt (fun j hj => hno.out j (by omega) hj) (HT.out ▸ hp)).symm, by (repeat (first | exact Below.refl _ _ | assumption | (refine Below.alloc ?_ (by first | omega | (simp; omega) | (simp; done)) _) | (refine Below.setCell ?_ (by first | omega | (simp; omega) | (simp; done)) _) | (refine Below.drew ?_) | (refine belowN ?_ _) | (refine Below.trans ?_ (Below.mono ‹Below _ _ _› (by first | omega | (simp; omega) | (simp; done))))))⟩
      · simp only [Bool.not_eq_true] at hp
        rw [hp]
        go_wp2
        go_roundw
        case rel => exact ⟨k + 1, by omega, by go_num, by (repeat (first | exact Below.refl _ _ | assumption | (refine Below.alloc ?_ (by first | omega | (simp; omega) | (simp; done)) _) | (refine Below.setCell ?_ (by first | omega | (simp; omega) | (simp; done)) _) | (refine Below.drew ?_) | (refine belowN ?_ _) | (refine Below.trans ?_ (Below.mono ‹Below _ _ _› (by first | omega | (simp; omega) | (simp; done)))))), fun j hj hj' => if h : j < k then hno.out j hj h else by obtain rfl : j = k := (by omega); exact HT.out ▸ hp⟩
        case measure => simp [intOf]; omega
    · go_wp2
      go_ret
      obtain rfl : k = ts.length := by omega
      exact ⟨ret_int (firstIdx_none p ts (fun j hj => hno.out j hj hj)).symm, hb⟩

theorem cany_any (g : Nat) (cap : Array Value) (A : Option Addr) (c : Nat) (ts : List Cyc) (p : Cyc → Bool) (w : World)
    (hg : Ent g) (hl : ts.length ≤ 1000000) (hr : Sl Cyc.cells 2 w w.heap.size A ts)
    (hf : ∀ t ∈ ts, ∀ W, Below w.heap.size w W → Calls Tryz.prog g (#[Value.agg #[(.int .i64 t.l), (.int .i64 t.s)]] ++ cap) W fun e W' => e = .returned (.bool (p t)) ∧ Below W.heap.size W W') :
    Calls Tryz.prog 60 #[.slice A ts.length c, .func (.func g) #[] cap] w fun e w' => e = .returned (.bool (ts.any p)) ∧ Below w.heap.size w w' := by
  have H := Lib.hid (cidx_any g cap A c ts p w hg hl hr hf)
  clear hf hr hl hg
  go_enter Tryz.func60, Tryz.ntmps60
  go_wp2_with fail
  refine H.out.mono ?_
  rintro e w1 ⟨rfl, hb1⟩
  go_wp2
  go_ret
  exact ⟨ret_bool (by rw [← firstIdx_any]), hb1⟩


set_option maxRecDepth 100000 in
theorem tidx_any (g : Nat) (cap : Array Value) (A : Option Addr) (c : Nat) (ts : List DTs) (p : DTs → Bool) (w : World)
    (hg : Ent g) (hl : ts.length ≤ 1000000) (hr : Sl DTs.cells 5 w w.heap.size A ts)
    (hf : ∀ t ∈ ts, ∀ W, Below w.heap.size w W → Calls Tryz.prog g (#[Value.agg #[(.int .i64 t.kind), (.int .i64 t.which), (.int .u64 t.set), (.int .i64 t.fr), (.int .i64 t.to_)]] ++ cap) W fun e W' => e = .returned (.bool (p t)) ∧ Below W.heap.size W W') :
    Calls Tryz.prog 97 #[.slice A ts.length c, .func (.func g) #[] cap] w fun e w' => e = .returned (.int .i64 (firstIdx p ts)) ∧ Below w.heap.size w w' := by
  unfold Ent at hg
  have HF := Lib.hid hf; clear hf
  have HR := Lib.hid hr; clear hr
  go_enter Tryz.func97, Tryz.ntmps97
  go_wp2
  go_loopw [8] (fun i wr => ∃ k : Nat, k ≤ ts.length ∧ i = .int .i64 k ∧ Below w.heap.size w wr ∧ Hid (∀ j, (hj : j < ts.length) → j < k → p ts[j] = false)) (fun i _ => ts.length - (intOf i).toNat)
  case atStart => exact ⟨0, by omega, rfl, Below.refl _ _, fun j _ h => by omega⟩
  case round =>
    obtain ⟨k, hk, rfl, hb, hno⟩ := hrel
    by_cases hlt : k < ts.length
    · obtain ⟨ab, ao, rfl, hblk, hcell⟩ := (Sl.below HR.out hb).at_ (k := k) (fun _ => rfl) hlt
      obtain ⟨t, ht⟩ : ∃ t, ts[k] = t := ⟨_, rfl⟩
      rw [ht] at hcell
      have HM := Lib.hid (show t ∈ ts from ht ▸ List.getElem_mem hlt)
      have HT := Lib.hid ht; clear ht
      have c0 : wr.cell? ⟨ab, ao + k * 5, none⟩ = some (.int .i64 t.kind) := hcell 0 _ rfl
      have c1 : wr.cell? ⟨ab, ao + k * 5 + 1, none⟩ = some (.int .i64 t.which) := hcell 1 _ rfl
      have c2 : wr.cell? ⟨ab, ao + k * 5 + 2, none⟩ = some (.int .u64 t.set) := hcell 2 _ rfl
      have c3 : wr.cell? ⟨ab, ao + k * 5 + 3, none⟩ = some (.int .i64 t.fr) := hcell 3 _ rfl
      have c4 : wr.cell? ⟨ab, ao + k * 5 + 4, none⟩ = some (.int .i64 t.to_) := hcell 4 _ rfl
      clear hcell
      go_wp2_with fail
      refine (HF.out t HM.out wr hb).mono ?_
      rintro e w1 ⟨rfl, hb1⟩
      have hz := hb.size
      by_cases hp : p t = true
      · rw [hp]
        go_wp2
        go_ret
        exact ⟨ret_int (firstIdx_at p ts k hlt (fun j hj => hno.out j (by omega) hj) (HT.out ▸ hp)).symm, by (repeat (first | exact Below.refl _ _ | assumption | (refine Below.alloc ?_ (by first | omega | (simp; omega) | (simp; done)) _) | (refine Below.setCell ?_ (by first | omega | (simp; omega) | (simp; done)) _) | (refine Below.drew ?_) | (refine belowN ?_ _) | (refine Below.trans ?_ (Below.mono ‹Below _ _ _› (by first | omega | (simp; omega) | (simp; done))))))⟩
      · simp only [Bool.not_eq_true] at hp
        rw [hp]
        go_wp2
        go_roundw
        case rel => exact ⟨k + 1, by omega, by go_num, by (repeat (first | exact Below.refl _ _ | assumption | (refine Below.alloc ?_ (by first | omega | (simp; omega) | (simp; done)) _) | (refine Below.setCell ?_ (by first | omega | (simp; omega) | (simp; done)) _) | (refine Below.drew ?_) | (refine belowN ?_ _) | (refine Below.trans ?_ (Below.mono ‹Below _ _ _› (by first | omega | (simp; omega) | (simp; done)))))), fun j hj hj' => if h : j < k then hno.out j hj h else by obtain rfl : j = k := (by omega); exact HT.out ▸ hp⟩
        case measure => simp [intOf]; omega
    · go_wp2
      go_ret
      obtain rfl : k = ts.length := by omega
      exact ⟨ret_int (firstIdx_none p ts (fun j hj => hno.out j hj hj)).symm, hb⟩

theorem tany_any (g : Nat) (cap : Array Value) (A : Option Addr) (c : Nat) (ts : List DTs) (p : DTs → Bool) (w : World)
    (hg : Ent g) (hl : ts.length ≤ 1000000) (hr : Sl DTs.cells 5 w w.heap.size A ts)
    (hf : ∀ t ∈ ts, ∀ W, Below w.heap.size w W → Calls Tryz.prog g (#[Value.agg #[(.int .i64 t.kind), (.int .i64 t.which), (.int .u64 t.set), (.int .i64 t.fr), (.int .i64 t.to_)]] ++ cap) W fun e W' => e = .returned (.bool (p t)) ∧ Below W.heap.size W W') :
    Calls Tryz.prog 73 #[.slice A ts.length c, .func (.func g) #[] cap] w fun e w' => e = .returned (.bool (ts.any p)) ∧ Below w.heap.size w w' := by
  have H := Lib.hid (tidx_any g cap A c ts p w hg hl hr hf)
  clear hf hr hl hg
  go_enter Tryz.func73, Tryz.ntmps73
  go_wp2_with fail
  refine H.out.mono ?_
  rintro e w1 ⟨rfl, hb1⟩
  go_wp2
  go_ret
  exact ⟨ret_bool (by rw [← firstIdx_any]), hb1⟩


set_option maxRecDepth 100000 in
theorem ridx_any (g : Nat) (cap : Array Value) (A : Option Addr) (c : Nat) (ts : List DRl) (p : DRl → Bool) (w : World)
    (hg : Ent g) (hl : ts.length ≤ 1000000) (hr : Sl DRl.cells 2 w w.heap.size A ts)
    (hf : ∀ t ∈ ts, ∀ W, Below w.heap.size w W → Calls Tryz.prog g (#[Value.agg #[(.slice t.wa t.when_.length t.wc), (.bool t.allow)]] ++ cap) W fun e W' => e = .returned (.bool (p t)) ∧ Below W.heap.size W W') :
    Calls Tryz.prog 96 #[.slice A ts.length c, .func (.func g) #[] cap] w fun e w' => e = .returned (.int .i64 (firstIdx p ts)) ∧ Below w.heap.size w w' := by
  unfold Ent at hg
  have HF := Lib.hid hf; clear hf
  have HR := Lib.hid hr; clear hr
  go_enter Tryz.func96, Tryz.ntmps96
  go_wp2
  go_loopw [8] (fun i wr => ∃ k : Nat, k ≤ ts.length ∧ i = .int .i64 k ∧ Below w.heap.size w wr ∧ Hid (∀ j, (hj : j < ts.length) → j < k → p ts[j] = false)) (fun i _ => ts.length - (intOf i).toNat)
  case atStart => exact ⟨0, by omega, rfl, Below.refl _ _, fun j _ h => by omega⟩
  case round =>
    obtain ⟨k, hk, rfl, hb, hno⟩ := hrel
    by_cases hlt : k < ts.length
    · obtain ⟨ab, ao, rfl, hblk, hcell⟩ := (Sl.below HR.out hb).at_ (k := k) (fun _ => rfl) hlt
      obtain ⟨t, ht⟩ : ∃ t, ts[k] = t := ⟨_, rfl⟩
      rw [ht] at hcell
      have HM := Lib.hid (show t ∈ ts from ht ▸ List.getElem_mem hlt)
      have HT := Lib.hid ht; clear ht
      have c0 : wr.cell? ⟨ab, ao + k * 2, none⟩ = some (.slice t.wa t.when_.length t.wc) := hcell 0 _ rfl
      have c1 : wr.cell? ⟨ab, ao + k * 2 + 1, none⟩ = some (.bool t.allow) := hcell 1 _ rfl
      clear hcell
      go_wp2_with fail
      refine (HF.out t HM.out wr hb).mono ?_
      rintro e w1 ⟨rfl, hb1⟩
      have hz := hb.size
      by_cases hp : p t = true
      · rw [hp]
        go_wp2
        go_ret
        exact ⟨ret_int (firstIdx_at p ts k hlt (fun j hj => hno.out j (by omega) hj) (HT.out ▸ hp)).symm, by (repeat (first | exact Below.refl _ _ | assumption | (refine Below.alloc ?_ (by first | omega | (simp; omega) | (simp; done)) _) | (refine Below.setCell ?_ (by first | omega | (simp; omega) | (simp; done)) _) | (refine Below.drew ?_) | (refine belowN ?_ _) | (refine Below.trans ?_ (Below.mono ‹Below _ _ _› (by first | omega | (simp; omega) | (simp; done))))))⟩
      · simp only [Bool.not_eq_true] at hp
        rw [hp]
        go_wp2
        go_roundw
        case rel => exact ⟨k + 1, by omega, by go_num, by (repeat (first | exact Below.refl _ _ | assumption | (refine Below.alloc ?_ (by first | omega | (simp; omega) | (simp; done)) _) | (refine Below.setCell ?_ (by first | omega | (simp; omega) | (simp; done)) _) | (refine Below.drew ?_) | (refine belowN ?_ _) | (refine Below.trans ?_ (Below.mono ‹Below _ _ _› (by first | omega | (simp; omega) | (simp; done)))))), fun j hj hj' => if h : j < k then hno.out j hj h else by obtain rfl : j = k := (by omega); exact HT.out ▸ hp⟩
        case measure => simp [intOf]; omega
    · go_wp2
      go_ret
      obtain rfl : k = ts.length := by omega
      exact ⟨ret_int (firstIdx_none p ts (fun j hj => hno.out j hj hj)).symm, hb⟩

theorem rany_any (g : Nat) (cap : Array Value) (A : Option Addr) (c : Nat) (ts : List DRl) (p : DRl → Bool) (w : World)
    (hg : Ent g) (hl : ts.length ≤ 1000000) (hr : Sl DRl.cells 2 w w.heap.size A ts)
    (hf : ∀ t ∈ ts, ∀ W, Below w.heap.size w W → Calls Tryz.prog g (#[Value.agg #[(.slice t.wa t.when_.length t.wc), (.bool t.allow)]] ++ cap) W fun e W' => e = .returned (.bool (p t)) ∧ Below W.heap.size W W') :
    Calls Tryz.prog 71 #[.slice A ts.length c, .func (.func g) #[] cap] w fun e w' => e = .returned (.bool (ts.any p)) ∧ Below w.heap.size w w' := by
  have H := Lib.hid (ridx_any g cap A c ts p w hg hl hr hf)
  clear hf hr hl hg
  go_enter Tryz.func71, Tryz.ntmps71
  go_wp2_with fail
  refine H.out.mono ?_
  rintro e w1 ⟨rfl, hb1⟩
  go_wp2
  go_ret
  exact ⟨ret_bool (by rw [← firstIdx_any]), hb1⟩


set_option maxRecDepth 100000 in
theorem pidx_any (g : Nat) (cap : Array Value) (A : Option Addr) (c : Nat) (ts : List DPs) (p : DPs → Bool) (w : World)
    (hg : Ent g) (hl : ts.length ≤ 1000000) (hr : Sl DPs.cells 1 w w.heap.size A ts)
    (hf : ∀ t ∈ ts, ∀ W, Below w.heap.size w W → Calls Tryz.prog g (#[.slice t.a t.rules.length t.c] ++ cap) W fun e W' => e = .returned (.bool (p t)) ∧ Below W.heap.size W W') :
    Calls Tryz.prog 86 #[.slice A ts.length c, .func (.func g) #[] cap] w fun e w' => e = .returned (.int .i64 (firstIdx p ts)) ∧ Below w.heap.size w w' := by
  unfold Ent at hg
  have HF := Lib.hid hf; clear hf
  have HR := Lib.hid hr; clear hr
  go_enter Tryz.func86, Tryz.ntmps86
  go_wp2
  go_loopw [8] (fun i wr => ∃ k : Nat, k ≤ ts.length ∧ i = .int .i64 k ∧ Below w.heap.size w wr ∧ Hid (∀ j, (hj : j < ts.length) → j < k → p ts[j] = false)) (fun i _ => ts.length - (intOf i).toNat)
  case atStart => exact ⟨0, by omega, rfl, Below.refl _ _, fun j _ h => by omega⟩
  case round =>
    obtain ⟨k, hk, rfl, hb, hno⟩ := hrel
    by_cases hlt : k < ts.length
    · obtain ⟨ab, ao, rfl, hblk, hcell⟩ := (Sl.below HR.out hb).at_ (k := k) (fun _ => rfl) hlt
      obtain ⟨t, ht⟩ : ∃ t, ts[k] = t := ⟨_, rfl⟩
      rw [ht] at hcell
      have HM := Lib.hid (show t ∈ ts from ht ▸ List.getElem_mem hlt)
      have HT := Lib.hid ht; clear ht
      have c0 : wr.cell? ⟨ab, ao + k, none⟩ = some (.slice t.a t.rules.length t.c) := by have := hcell 0 _ rfl; simpa using this
      clear hcell
      go_wp2_with fail
      refine (HF.out t HM.out wr hb).mono ?_
      rintro e w1 ⟨rfl, hb1⟩
      have hz := hb.size
      by_cases hp : p t = true
      · rw [hp]
        go_wp2
        go_ret
        exact ⟨ret_int (firstIdx_at p ts k hlt (fun j hj => hno.out j (by omega) hj) (HT.out ▸ hp)).symm, by (repeat (first | exact Below.refl _ _ | assumption | (refine Below.alloc ?_ (by first | omega | (simp; omega) | (simp; done)) _) | (refine Below.setCell ?_ (by first | omega | (simp; omega) | (simp; done)) _) | (refine Below.drew ?_) | (refine belowN ?_ _) | (refine Below.trans ?_ (Below.mono ‹Below _ _ _› (by first | omega | (simp; omega) | (simp; done))))))⟩
      · simp only [Bool.not_eq_true] at hp
        rw [hp]
        go_wp2
        go_roundw
        case rel => exact ⟨k + 1, by omega, by go_num, by (repeat (first | exact Below.refl _ _ | assumption | (refine Below.alloc ?_ (by first | omega | (simp; omega) | (simp; done)) _) | (refine Below.setCell ?_ (by first | omega | (simp; omega) | (simp; done)) _) | (refine Below.drew ?_) | (refine belowN ?_ _) | (refine Below.trans ?_ (Below.mono ‹Below _ _ _› (by first | omega | (simp; omega) | (simp; done)))))), fun j hj hj' => if h : j < k then hno.out j hj h else by obtain rfl : j = k := (by omega); exact HT.out ▸ hp⟩
        case measure => simp [intOf]; omega
    · go_wp2
      go_ret
      obtain rfl : k = ts.length := by omega
      exact ⟨ret_int (firstIdx_none p ts (fun j hj => hno.out j hj hj)).symm, hb⟩

theorem pany_any (g : Nat) (cap : Array Value) (A : Option Addr) (c : Nat) (ts : List DPs) (p : DPs → Bool) (w : World)
    (hg : Ent g) (hl : ts.length ≤ 1000000) (hr : Sl DPs.cells 1 w w.heap.size A ts)
    (hf : ∀ t ∈ ts, ∀ W, Below w.heap.size w W → Calls Tryz.prog g (#[.slice t.a t.rules.length t.c] ++ cap) W fun e W' => e = .returned (.bool (p t)) ∧ Below W.heap.size W W') :
    Calls Tryz.prog 50 #[.slice A ts.length c, .func (.func g) #[] cap] w fun e w' => e = .returned (.bool (ts.any p)) ∧ Below w.heap.size w w' := by
  have H := Lib.hid (pidx_any g cap A c ts p w hg hl hr hf)
  clear hf hr hl hg
  go_enter Tryz.func50, Tryz.ntmps50
  go_wp2_with fail
  refine H.out.mono ?_
  rintro e w1 ⟨rfl, hb1⟩
  go_wp2
  go_ret
  exact ⟨ret_bool (by rw [← firstIdx_any]), hb1⟩


theorem any_not {α : Type} (p : α → Bool) (l : List α) : (l.any fun t => !p t) = !(l.all p) := by
  induction l with
  | nil => rfl
  | cons x l ih => rw [List.any_cons, List.all_cons, ih, Bool.not_and]
theorem ent_areCyclesC : Ent 61 := ent_of (fn := Tryz.f61) (by kernel_rfl) (by kernel_rfl) (by kernel_rfl)
theorem areCyclesC_any (l s : Int) (w : World) : Calls Tryz.prog 61 #[.agg #[.int .i64 l, .int .i64 s]] w fun e w' => e = .returned (.bool (!cycB ⟨l, s⟩)) ∧ Below w.heap.size w w' := by
  go_enter Tryz.func61, Tryz.ntmps61
  go_wp2_with (go_at_call 62; refine (isCycle_any l s _).mono ?_; rintro _ W1 ⟨rfl, hb1⟩)
  go_ret
  exact ⟨rfl, bl2 (by (repeat (first | exact Below.refl _ _ | assumption | (refine Below.alloc ?_ (by first | omega | (simp; omega) | (simp; done)) _) | (refine Below.setCell ?_ (by first | omega | (simp; omega) | (simp; done)) _) | (refine Below.drew ?_) | (refine belowN ?_ _) | (refine Below.trans ?_ (Below.mono ‹Below _ _ _› (by first | omega | (simp; omega) | (simp; done))))))) hb1⟩
theorem areCycles_any (A : Option Addr) (c : Nat) (l : List Cyc) (w : World) (hl : l.length ≤ 1000000) (hr : Sl Cyc.cells 2 w w.heap.size A l) :
    Calls Tryz.prog 34 #[.slice A l.length c] w fun e w' => e = .returned (.bool (l.all cycB)) ∧ Below w.heap.size w w' := by
  have H := Lib.hid (cany_any 61 #[] A c l (fun t => !cycB t) w ent_areCyclesC hl hr (fun t _ W _ => areCyclesC_any t.l t.s W))
  have e := any_not cycB l
  rw [e] at H
  clear hr e
  go_enter Tryz.func34, Tryz.ntmps34
  go_wp2_with fail
  refine H.out.mono ?_
  rintro _ W1 ⟨rfl, hb1⟩
  go_wp2
  go_ret
  exact ⟨by simp, hb1⟩
/-- the position of a day in a cycle, or the error -/
def posR (c : Cyc) (d : Int) : Int × Int := if cycB c then (if inB d 0 1000000 then (posI c d, 0) else (0, 3)) else (0, 2)
theorem isCycle_val {l s : Int} {v : Bool} (h : cycB ⟨l, s⟩ = v) (w : World) : Calls Tryz.prog 62 #[.agg #[.int .i64 l, .int .i64 s]] w fun e w' => e = .returned (.bool v) ∧ Below w.heap.size w w' := h ▸ isCycle_any l s w
end Go.Proofs.YtfbnllmmoaialaaGreat
namespace Go.Proofs.YtfbnllmmoaialaaGreat
open Go.RowKit

/-- an almanac, with the address of its cycles -/
structure Alm where
  a : Option Addr
  c : Nat
  cycles : List Cyc
  sol : Sol
  lun : Lun
def Alm.cells (x : Alm) : List Value := [.slice x.a x.cycles.length x.c, .int .i64 x.sol.e, .int .i64 x.sol.b, .int .i64 x.sol.u, .int .i64 x.lun.d, .int .i64 x.lun.p, .int .i64 x.lun.f, .int .i64 x.lun.m, .int .i64 x.lun.y, .int .i64 x.lun.s, .int .i64 x.lun.l]
def almB (x : Alm) : Bool := decide (x.cycles.length ≤ 8) && x.cycles.all cycB && solB x.sol && lunB x.lun
def almE (x : Alm) : Int := if almB x then 0 else 2
set_option maxRecDepth 100000 in
set_option maxHeartbeats 4000000 in
theorem checkF_any (A : Option Addr) (c : Nat) (l : List Cyc) (e b u d p f m y s k : Int) (w : World) (hl : l.length ≤ 1000000) (hr : Sl Cyc.cells 2 w w.heap.size A l) :
    Calls Tryz.prog 45 #[.agg #[.slice A l.length c, .int .i64 e, .int .i64 b, .int .i64 u, .int .i64 d, .int .i64 p, .int .i64 f, .int .i64 m, .int .i64 y, .int .i64 s, .int .i64 k]] w fun en w' => en = .returned (.int .i64 (almE ⟨A, c, l, ⟨e, b, u⟩, ⟨d, p, f, m, y, s, k⟩⟩)) ∧ Below w.heap.size w w' := by
  by_cases h8 : l.length ≤ 8
  · have d1 : decide (8 < (l.length : Int)) = false := by simp; omega
    have d1' : decide (8 < l.length) = false := by simp; omega
    cases hc : l.all cycB with
    | false =>
      have HCV := Lib.hid (fun W (hW : Below w.heap.size w W) => (by have h := areCycles_any A c l W hl ((hr.below hW).more hW.size); rw [hc] at h; exact h : Calls Tryz.prog 34 #[.slice A l.length c] W fun e w' => e = .returned (.bool false) ∧ Below W.heap.size W w'))
      have HT : Hid (almE ⟨A, c, l, ⟨e, b, u⟩, ⟨d, p, f, m, y, s, k⟩⟩ = 2) := (by simp [almE, almB, hc] : almE _ = 2)
      clear hc hr
      go_enter Tryz.func45, Tryz.ntmps45
      go_wp2_with (first | (go_at_call 34; refine (HCV.out _ (by (repeat (first | exact Below.refl _ _ | assumption | (refine Below.alloc ?_ (by first | omega | (simp; omega) | (simp; done)) _) | (refine Below.setCell ?_ (by first | omega | (simp; omega) | (simp; done)) _) | (refine Below.drew ?_) | (refine belowN ?_ _) | (refine Below.trans ?_ (Below.mono ‹Below _ _ _› (by first | omega | (simp; omega) | (simp; done)))))))).mono ?_; rintro _ W1 ⟨rfl, hb1⟩; have hw1 := bl2 (by (repeat (first | exact Below.refl _ _ | assumption | (refine Below.alloc ?_ (by first | omega | (simp; omega) | (simp; done)) _) | (refine Below.setCell ?_ (by first | omega | (simp; omega) | (simp; done)) _) | (refine Below.drew ?_) | (refine belowN ?_ _) | (refine Below.trans ?_ (Below.mono ‹Below _ _ _› (by first | omega | (simp; omega) | (simp; done)))))) : Below w.heap.size w _) hb1; have ga : Blk W1 w.heap.size #[.slice A l.length c, .int .i64 e, .int .i64 b, .int .i64 u, .int .i64 d, .int .i64 p, .int .i64 f, .int .i64 m, .int .i64 y, .int .i64 s, .int .i64 k] 28 := (Blk.at_ rfl).below hb1 (by first | omega | (simp; omega) | (simp; done)); (have z0 := ga.cell 0; have z1 := ga.cell 1; have z2 := ga.cell 2; have z3 := ga.cell 3; have z4 := ga.cell 4; have z5 := ga.cell 5; have z6 := ga.cell 6; have z7 := ga.cell 7; have z8 := ga.cell 8; have z9 := ga.cell 9; have z10 := ga.cell 10; simp at z0 z1 z2 z3 z4 z5 z6 z7 z8 z9 z10)) | (go_at_call 39; refine (HSV.out _).mono ?_; rintro _ W2 ⟨rfl, hb2⟩; have hw2 := bl2 hw1 hb2; have ga := ga.below hb2 ga.lt; (have z0 := ga.cell 0; have z1 := ga.cell 1; have z2 := ga.cell 2; have z3 := ga.cell 3; have z4 := ga.cell 4; have z5 := ga.cell 5; have z6 := ga.cell 6; have z7 := ga.cell 7; have z8 := ga.cell 8; have z9 := ga.cell 9; have z10 := ga.cell 10; simp at z0 z1 z2 z3 z4 z5 z6 z7 z8 z9 z10)) | (go_at_call 41; refine (HLV.out _).mono ?_; rintro _ W3 ⟨rfl, hb3⟩; have hw3 := bl2 hw2 hb3))
      go_ret
      exact ⟨by rw [HT.out]; rfl, hw1⟩
    | true =>
      have HCV := Lib.hid (fun W (hW : Below w.heap.size w W) => (by have h := areCycles_any A c l W hl ((hr.below hW).more hW.size); rw [hc] at h; exact h : Calls Tryz.prog 34 #[.slice A l.length c] W fun e w' => e = .returned (.bool true) ∧ Below W.heap.size W w'))
      cases hs : solB ⟨e, b, u⟩ with
      | false =>
        have HSV := Lib.hid (fun W => isSolar_val hs W)
        have HT : Hid (almE ⟨A, c, l, ⟨e, b, u⟩, ⟨d, p, f, m, y, s, k⟩⟩ = 2) := (by simp [almE, almB, hs] : almE _ = 2)
        clear hc hr hs
        go_enter Tryz.func45, Tryz.ntmps45
        go_wp2_with (first | (go_at_call 34; refine (HCV.out _ (by (repeat (first | exact Below.refl _ _ | assumption | (refine Below.alloc ?_ (by first | omega | (simp; omega) | (simp; done)) _) | (refine Below.setCell ?_ (by first | omega | (simp; omega) | (simp; done)) _) | (refine Below.drew ?_) | (refine belowN ?_ _) | (refine Below.trans ?_ (Below.mono ‹Below _ _ _› (by first | omega | (simp; omega) | (simp; done)))))))).mono ?_; rintro _ W1 ⟨rfl, hb1⟩; have hw1 := bl2 (by (repeat (first | exact Below.refl _ _ | assumption | (refine Below.alloc ?_ (by first | omega | (simp; omega) | (simp; done)) _) | (refine Below.setCell ?_ (by first | omega | (simp; omega) | (simp; done)) _) | (refine Below.drew ?_) | (refine belowN ?_ _) | (refine Below.trans ?_ (Below.mono ‹Below _ _ _› (by first | omega | (simp; omega) | (simp; done)))))) : Below w.heap.size w _) hb1; have ga : Blk W1 w.heap.size #[.slice A l.length c, .int .i64 e, .int .i64 b, .int .i64 u, .int .i64 d, .int .i64 p, .int .i64 f, .int .i64 m, .int .i64 y, .int .i64 s, .int .i64 k] 28 := (Blk.at_ rfl).below hb1 (by first | omega | (simp; omega) | (simp; done)); (have z0 := ga.cell 0; have z1 := ga.cell 1; have z2 := ga.cell 2; have z3 := ga.cell 3; have z4 := ga.cell 4; have z5 := ga.cell 5; have z6 := ga.cell 6; have z7 := ga.cell 7; have z8 := ga.cell 8; have z9 := ga.cell 9; have z10 := ga.cell 10; simp at z0 z1 z2 z3 z4 z5 z6 z7 z8 z9 z10)) | (go_at_call 39; refine (HSV.out _).mono ?_; rintro _ W2 ⟨rfl, hb2⟩; have hw2 := bl2 hw1 hb2; have ga := ga.below hb2 ga.lt; (have z0 := ga.cell 0; have z1 := ga.cell 1; have z2 := ga.cell 2; have z3 := ga.cell 3; have z4 := ga.cell 4; have z5 := ga.cell 5; have z6 := ga.cell 6; have z7 := ga.cell 7; have z8 := ga.cell 8; have z9 := ga.cell 9; have z10 := ga.cell 10; simp at z0 z1 z2 z3 z4 z5 z6 z7 z8 z9 z10)) | (go_at_call 41; refine (HLV.out _).mono ?_; rintro _ W3 ⟨rfl, hb3⟩; have hw3 := bl2 hw2 hb3))
        go_ret
        exact ⟨by rw [HT.out]; rfl, hw2⟩
      | true =>
        have HSV := Lib.hid (fun W => isSolar_val hs W)
        cases hn : lunB ⟨d, p, f, m, y, s, k⟩ with
        | false =>
          have HLV := Lib.hid (fun W => isLunar_val hn W)
          have HT : Hid (almE ⟨A, c, l, ⟨e, b, u⟩, ⟨d, p, f, m, y, s, k⟩⟩ = 2) := (by simp [almE, almB, hn] : almE _ = 2)
          clear hc hr hs hn
          go_enter Tryz.func45, Tryz.ntmps45
          go_wp2_with (first | (go_at_call 34; refine (HCV.out _ (by (repeat (first | exact Below.refl _ _ | assumption | (refine Below.alloc ?_ (by first | omega | (simp; omega) | (simp; done)) _) | (refine Below.setCell ?_ (by first | omega | (simp; omega) | (simp; done)) _) | (refine Below.drew ?_) | (refine belowN ?_ _) | (refine Below.trans ?_ (Below.mono ‹Below _ _ _› (by first | omega | (simp; omega) | (simp; done)))))))).mono ?_; rintro _ W1 ⟨rfl, hb1⟩; have hw1 := bl2 (by (repeat (first | exact Below.refl _ _ | assumption | (refine Below.alloc ?_ (by first | omega | (simp; omega) | (simp; done)) _) | (refine Below.setCell ?_ (by first | omega | (simp; omega) | (simp; done)) _) | (refine Below.drew ?_) | (refine belowN ?_ _) | (refine Below.trans ?_ (Below.mono ‹Below _ _ _› (by first | omega | (simp; omega) | (simp; done)))))) : Below w.heap.size w _) hb1; have ga : Blk W1 w.heap.size #[.slice A l.length c, .int .i64 e, .int .i64 b, .int .i64 u, .int .i64 d, .int .i64 p, .int .i64 f, .int .i64 m, .int .i64 y, .int .i64 s, .int .i64 k] 28 := (Blk.at_ rfl).below hb1 (by first | omega | (simp; omega) | (simp; done)); (have z0 := ga.cell 0; have z1 := ga.cell 1; have z2 := ga.cell 2; have z3 := ga.cell 3; have z4 := ga.cell 4; have z5 := ga.cell 5; have z6 := ga.cell 6; have z7 := ga.cell 7; have z8 := ga.cell 8; have z9 := ga.cell 9; have z10 := ga.cell 10; simp at z0 z1 z2 z3 z4 z5 z6 z7 z8 z9 z10)) | (go_at_call 39; refine (HSV.out _).mono ?_; rintro _ W2 ⟨rfl, hb2⟩; have hw2 := bl2 hw1 hb2; have ga := ga.below hb2 ga.lt; (have z0 := ga.cell 0; have z1 := ga.cell 1; have z2 := ga.cell 2; have z3 := ga.cell 3; have z4 := ga.cell 4; have z5 := ga.cell 5; have z6 := ga.cell 6; have z7 := ga.cell 7; have z8 := ga.cell 8; have z9 := ga.cell 9; have z10 := ga.cell 10; simp at z0 z1 z2 z3 z4 z5 z6 z7 z8 z9 z10)) | (go_at_call 41; refine (HLV.out _).mono ?_; rintro _ W3 ⟨rfl, hb3⟩; have hw3 := bl2 hw2 hb3))
          go_ret
          exact ⟨by rw [HT.out]; rfl, hw3⟩
        | true =>
          have HLV := Lib.hid (fun W => isLunar_val hn W)
          have HT : Hid (almE ⟨A, c, l, ⟨e, b, u⟩, ⟨d, p, f, m, y, s, k⟩⟩ = 0) := (by simp only [almE, almB, hc, hs, hn, decide_eq_true h8, Bool.and_true, if_true] : almE _ = 0)
          clear hc hr hs hn
          go_enter Tryz.func45, Tryz.ntmps45
          go_wp2_with (first | (go_at_call 34; refine (HCV.out _ (by (repeat (first | exact Below.refl _ _ | assumption | (refine Below.alloc ?_ (by first | omega | (simp; omega) | (simp; done)) _) | (refine Below.setCell ?_ (by first | omega | (simp; omega) | (simp; done)) _) | (refine Below.drew ?_) | (refine belowN ?_ _) | (refine Below.trans ?_ (Below.mono ‹Below _ _ _› (by first | omega | (simp; omega) | (simp; done)))))))).mono ?_; rintro _ W1 ⟨rfl, hb1⟩; have hw1 := bl2 (by (repeat (first | exact Below.refl _ _ | assumption | (refine Below.alloc ?_ (by first | omega | (simp; omega) | (simp; done)) _) | (refine Below.setCell ?_ (by first | omega | (simp; omega) | (simp; done)) _) | (refine Below.drew ?_) | (refine belowN ?_ _) | (refine Below.trans ?_ (Below.mono ‹Below _ _ _› (by first | omega | (simp; omega) | (simp; done)))))) : Below w.heap.size w _) hb1; have ga : Blk W1 w.heap.size #[.slice A l.length c, .int .i64 e, .int .i64 b, .int .i64 u, .int .i64 d, .int .i64 p, .int .i64 f, .int .i64 m, .int .i64 y, .int .i64 s, .int .i64 k] 28 := (Blk.at_ rfl).below hb1 (by first | omega | (simp; omega) | (simp; done)); (have z0 := ga.cell 0; have z1 := ga.cell 1; have z2 := ga.cell 2; have z3 := ga.cell 3; have z4 := ga.cell 4; have z5 := ga.cell 5; have z6 := ga.cell 6; have z7 := ga.cell 7; have z8 := ga.cell 8; have z9 := ga.cell 9; have z10 := ga.cell 10; simp at z0 z1 z2 z3 z4 z5 z6 z7 z8 z9 z10)) | (go_at_call 39; refine (HSV.out _).mono ?_; rintro _ W2 ⟨rfl, hb2⟩; have hw2 := bl2 hw1 hb2; have ga := ga.below hb2 ga.lt; (have z0 := ga.cell 0; have z1 := ga.cell 1; have z2 := ga.cell 2; have z3 := ga.cell 3; have z4 := ga.cell 4; have z5 := ga.cell 5; have z6 := ga.cell 6; have z7 := ga.cell 7; have z8 := ga.cell 8; have z9 := ga.cell 9; have z10 := ga.cell 10; simp at z0 z1 z2 z3 z4 z5 z6 z7 z8 z9 z10)) | (go_at_call 41; refine (HLV.out _).mono ?_; rintro _ W3 ⟨rfl, hb3⟩; have hw3 := bl2 hw2 hb3))
          go_ret
          exact ⟨by rw [HT.out]; rfl, hw3⟩
  · have d1 : decide (8 < (l.length : Int)) = true := by simp; omega
    have d1' : decide (8 < l.length) = true := by simp; omega
    have HT : Hid (almE ⟨A, c, l, ⟨e, b, u⟩, ⟨d, p, f, m, y, s, k⟩⟩ = 2) := (by simp [almE, almB, h8] : almE _ = 2)
    clear hr
    go_enter Tryz.func45, Tryz.ntmps45
    go_wp2
    go_ret
    exact ⟨by rw [HT.out]; rfl, by (repeat (first | exact Below.refl _ _ | assumption | (refine Below.alloc ?_ (by first | omega | (simp; omega) | (simp; done)) _) | (refine Below.setCell ?_ (by first | omega | (simp; omega) | (simp; done)) _) | (refine Below.drew ?_) | (refine belowN ?_ _) | (refine Below.trans ?_ (Below.mono ‹Below _ _ _› (by first | omega | (simp; omega) | (simp; done))))))⟩
end Go.Proofs.YtfbnllmmoaialaaGreat

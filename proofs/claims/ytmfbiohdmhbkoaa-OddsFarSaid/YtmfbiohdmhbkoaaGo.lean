/- The library's IndexFunc and ContainsFunc at integers, lists of integers, chances. -/
import Derived.Test.YtmfbiohdmhbkoaaGb
import Derived.Test.YtmfbiohdmhbkoaaPt
namespace Go.Proofs.Ytmfbiohdmhbkoaa
open Go.RowKit

def Ch.cells (x : Ch) : List Value := [.int .i64 x.n, .int .i64 x.d]

set_option maxRecDepth 100000 in
theorem intsidx_any (g : Nat) (cap : Array Value) (A : Option Addr) (c : Nat) (ts : List Int) (p : Int → Bool) (w : World)
    (hg : Ent g) (hl : ts.length ≤ 1000000) (hr : Sl intCell 1 w w.heap.size A ts)
    (hf : ∀ t ∈ ts, ∀ W, Below w.heap.size w W → Calls Try.prog g (#[.int .i64 t] ++ cap) W fun e W' => e = .returned (.bool (p t)) ∧ Below W.heap.size W W') :
    Calls Try.prog 91 #[.slice A ts.length c, .func (.func g) #[] cap] w fun e w' => e = .returned (.int .i64 (firstIdx p ts)) ∧ Below w.heap.size w w' := by
  unfold Ent at hg
  have HF := Lib.hid hf; clear hf
  have HR := Lib.hid hr; clear hr
  go_enter Try.func91, Try.ntmps91
  go_wp2
  go_loopw [8] (fun i wr => ∃ k : Nat, k ≤ ts.length ∧ i = .int .i64 k ∧ Below w.heap.size w wr ∧ Hid (∀ j, (hj : j < ts.length) → j < k → p ts[j] = false)) (fun i _ => ts.length - (intOf i).toNat)
  case atStart => exact ⟨0, by omega, rfl, Below.refl _ _, fun j _ h => by omega⟩
  case round =>
    obtain ⟨k, hk, rfl, hb, hno⟩ := hrel
    by_cases hlt : k < ts.length
    · obtain ⟨ab, ao, rfl, hblk, hcell⟩ := (Sl.below HR.out hb).at_ (k := k) (fun _ => rfl) hlt
      obtain ⟨t, ht⟩ : ∃ t, ts[k] = t := ⟨_, rfl⟩
      rw [ht] at hcell
      have HM := Lib.hid (show t ∈ ts from ht ▸ List.getElem_mem hlt)
      have HT := Lib.hid ht; clear ht
      have c0 : wr.cell? ⟨ab, ao + k, none⟩ = some (.int .i64 t) := by have := hcell 0 _ rfl; simpa using this
      clear hcell
      go_wp2_with fail
      refine (HF.out t HM.out wr hb).mono ?_
      rintro e w1 ⟨rfl, hb1⟩
      have hz := hb.size
      by_cases hp : p t = true
      · rw [hp]
        go_wp2
        go_ret
        exact ⟨ret_int (firstIdx_at p ts k hlt (fun j hj => hno.out j (by omega) hj) (HT.out ▸ hp)).symm, by (repeat (first | exact Below.refl _ _ | assumption | (refine Below.alloc ?_ (by first | omega | (simp; omega) | (simp; done)) _) | (refine Below.setCell ?_ (by first | omega | (simp; omega) | (simp; done)) _) | (refine Below.drew ?_) | (refine belowN ?_ _) | (refine Below.trans ?_ (Below.mono ‹Below _ _ _› (by first | omega | (simp; omega) | (simp; done))))))⟩
      · simp only [Bool.not_eq_true] at hp
        rw [hp]
        go_wp2
        go_roundw
        case rel => exact ⟨k + 1, by omega, by go_num, by (repeat (first | exact Below.refl _ _ | assumption | (refine Below.alloc ?_ (by first | omega | (simp; omega) | (simp; done)) _) | (refine Below.setCell ?_ (by first | omega | (simp; omega) | (simp; done)) _) | (refine Below.drew ?_) | (refine belowN ?_ _) | (refine Below.trans ?_ (Below.mono ‹Below _ _ _› (by first | omega | (simp; omega) | (simp; done)))))), fun j hj hj' => if h : j < k then hno.out j hj h else by obtain rfl : j = k := (by omega); exact HT.out ▸ hp⟩
        case measure => simp [intOf]; omega
    · go_wp2
      go_ret
      obtain rfl : k = ts.length := by omega
      exact ⟨ret_int (firstIdx_none p ts (fun j hj => hno.out j hj hj)).symm, hb⟩

theorem intsany_any (g : Nat) (cap : Array Value) (A : Option Addr) (c : Nat) (ts : List Int) (p : Int → Bool) (w : World)
    (hg : Ent g) (hl : ts.length ≤ 1000000) (hr : Sl intCell 1 w w.heap.size A ts)
    (hf : ∀ t ∈ ts, ∀ W, Below w.heap.size w W → Calls Try.prog g (#[.int .i64 t] ++ cap) W fun e W' => e = .returned (.bool (p t)) ∧ Below W.heap.size W W') :
    Calls Try.prog 65 #[.slice A ts.length c, .func (.func g) #[] cap] w fun e w' => e = .returned (.bool (ts.any p)) ∧ Below w.heap.size w w' := by
  have H := Lib.hid (intsidx_any g cap A c ts p w hg hl hr hf)
  clear hf hr hl hg
  go_enter Try.func65, Try.ntmps65
  go_wp2_with fail
  refine H.out.mono ?_
  rintro e w1 ⟨rfl, hb1⟩
  go_wp2
  go_ret
  exact ⟨ret_bool (by rw [← firstIdx_any]), hb1⟩


set_option maxRecDepth 100000 in
theorem listsidx_any (g : Nat) (cap : Array Value) (A : Option Addr) (c : Nat) (ts : List LL) (p : LL → Bool) (w : World)
    (hg : Ent g) (hl : ts.length ≤ 1000000) (hr : Sl LL.cells 1 w w.heap.size A ts)
    (hf : ∀ t ∈ ts, ∀ W, Below w.heap.size w W → Calls Try.prog g (#[.slice t.a t.l.length t.c] ++ cap) W fun e W' => e = .returned (.bool (p t)) ∧ Below W.heap.size W W') :
    Calls Try.prog 90 #[.slice A ts.length c, .func (.func g) #[] cap] w fun e w' => e = .returned (.int .i64 (firstIdx p ts)) ∧ Below w.heap.size w w' := by
  unfold Ent at hg
  have HF := Lib.hid hf; clear hf
  have HR := Lib.hid hr; clear hr
  go_enter Try.func90, Try.ntmps90
  go_wp2
  go_loopw [8] (fun i wr => ∃ k : Nat, k ≤ ts.length ∧ i = .int .i64 k ∧ Below w.heap.size w wr ∧ Hid (∀ j, (hj : j < ts.length) → j < k → p ts[j] = false)) (fun i _ => ts.length - (intOf i).toNat)
  case atStart => exact ⟨0, by omega, rfl, Below.refl _ _, fun j _ h => by omega⟩
  case round =>
    obtain ⟨k, hk, rfl, hb, hno⟩ := hrel
    by_cases hlt : k < ts.length
    · obtain ⟨ab, ao, rfl, hblk, hcell⟩ := (Sl.below HR.out hb).at_ (k := k) (fun _ => rfl) hlt
      obtain ⟨t, ht⟩ : ∃ t, ts[k] = t := ⟨_, rfl⟩
      rw [ht] at hcell
      have HM := Lib.hid (show t ∈ ts from ht ▸ List.getElem_mem hlt)
      have HT := Lib.hid ht; clear ht
      have c0 : wr.cell? ⟨ab, ao + k, none⟩ = some (.slice t.a t.l.length t.c) := by have := hcell 0 _ rfl; simpa [LL.val] using this
      clear hcell
      go_wp2_with fail
      refine (HF.out t HM.out wr hb).mono ?_
      rintro e w1 ⟨rfl, hb1⟩
      have hz := hb.size
      by_cases hp : p t = true
      · rw [hp]
        go_wp2
        go_ret
        exact ⟨ret_int (firstIdx_at p ts k hlt (fun j hj => hno.out j (by omega) hj) (HT.out ▸ hp)).symm, by (repeat (first | exact Below.refl _ _ | assumption | (refine Below.alloc ?_ (by first | omega | (simp; omega) | (simp; done)) _) | (refine Below.setCell ?_ (by first | omega | (simp; omega) | (simp; done)) _) | (refine Below.drew ?_) | (refine belowN ?_ _) | (refine Below.trans ?_ (Below.mono ‹Below _ _ _› (by first | omega | (simp; omega) | (simp; done))))))⟩
      · simp only [Bool.not_eq_true] at hp
        rw [hp]
        go_wp2
        go_roundw
        case rel => exact ⟨k + 1, by omega, by go_num, by (repeat (first | exact Below.refl _ _ | assumption | (refine Below.alloc ?_ (by first | omega | (simp; omega) | (simp; done)) _) | (refine Below.setCell ?_ (by first | omega | (simp; omega) | (simp; done)) _) | (refine Below.drew ?_) | (refine belowN ?_ _) | (refine Below.trans ?_ (Below.mono ‹Below _ _ _› (by first | omega | (simp; omega) | (simp; done)))))), fun j hj hj' => if h : j < k then hno.out j hj h else by obtain rfl : j = k := (by omega); exact HT.out ▸ hp⟩
        case measure => simp [intOf]; omega
    · go_wp2
      go_ret
      obtain rfl : k = ts.length := by omega
      exact ⟨ret_int (firstIdx_none p ts (fun j hj => hno.out j hj hj)).symm, hb⟩

theorem listsany_any (g : Nat) (cap : Array Value) (A : Option Addr) (c : Nat) (ts : List LL) (p : LL → Bool) (w : World)
    (hg : Ent g) (hl : ts.length ≤ 1000000) (hr : Sl LL.cells 1 w w.heap.size A ts)
    (hf : ∀ t ∈ ts, ∀ W, Below w.heap.size w W → Calls Try.prog g (#[.slice t.a t.l.length t.c] ++ cap) W fun e W' => e = .returned (.bool (p t)) ∧ Below W.heap.size W W') :
    Calls Try.prog 59 #[.slice A ts.length c, .func (.func g) #[] cap] w fun e w' => e = .returned (.bool (ts.any p)) ∧ Below w.heap.size w w' := by
  have H := Lib.hid (listsidx_any g cap A c ts p w hg hl hr hf)
  clear hf hr hl hg
  go_enter Try.func59, Try.ntmps59
  go_wp2_with fail
  refine H.out.mono ?_
  rintro e w1 ⟨rfl, hb1⟩
  go_wp2
  go_ret
  exact ⟨ret_bool (by rw [← firstIdx_any]), hb1⟩


set_option maxRecDepth 100000 in
theorem chsidx_any (g : Nat) (cap : Array Value) (A : Option Addr) (c : Nat) (ts : List Ch) (p : Ch → Bool) (w : World)
    (hg : Ent g) (hl : ts.length ≤ 1000000) (hr : Sl Ch.cells 2 w w.heap.size A ts)
    (hf : ∀ t ∈ ts, ∀ W, Below w.heap.size w W → Calls Try.prog g (#[Value.agg #[(.int .i64 t.n), (.int .i64 t.d)]] ++ cap) W fun e W' => e = .returned (.bool (p t)) ∧ Below W.heap.size W W') :
    Calls Try.prog 104 #[.slice A ts.length c, .func (.func g) #[] cap] w fun e w' => e = .returned (.int .i64 (firstIdx p ts)) ∧ Below w.heap.size w w' := by
  unfold Ent at hg
  have HF := Lib.hid hf; clear hf
  have HR := Lib.hid hr; clear hr
  go_enter Try.func104, Try.ntmps104
  go_wp2
  go_loopw [8] (fun i wr => ∃ k : Nat, k ≤ ts.length ∧ i = .int .i64 k ∧ Below w.heap.size w wr ∧ Hid (∀ j, (hj : j < ts.length) → j < k → p ts[j] = false)) (fun i _ => ts.length - (intOf i).toNat)
  case atStart => exact ⟨0, by omega, rfl, Below.refl _ _, fun j _ h => by omega⟩
  case round =>
    obtain ⟨k, hk, rfl, hb, hno⟩ := hrel
    by_cases hlt : k < ts.length
    · obtain ⟨ab, ao, rfl, hblk, hcell⟩ := (Sl.below HR.out hb).at_ (k := k) (fun _ => rfl) hlt
      obtain ⟨t, ht⟩ : ∃ t, ts[k] = t := ⟨_, rfl⟩
      rw [ht] at hcell
      have HM := Lib.hid (show t ∈ ts from ht ▸ List.getElem_mem hlt)
      have HT := Lib.hid ht; clear ht
      have c0 : wr.cell? ⟨ab, ao + k * 2, none⟩ = some (.int .i64 t.n) := hcell 0 _ rfl
      have c1 : wr.cell? ⟨ab, ao + k * 2 + 1, none⟩ = some (.int .i64 t.d) := hcell 1 _ rfl
      clear hcell
      go_wp2_with fail
      refine (HF.out t HM.out wr hb).mono ?_
      rintro e w1 ⟨rfl, hb1⟩
      have hz := hb.size
      by_cases hp : p t = true
      · rw [hp]
        go_wp2
        go_ret
        exact ⟨ret_int (firstIdx_at p ts k hlt (fun j hj => hno.out j (by omega) hj) (HT.out ▸ hp)).symm, by (repeat (first | exact Below.refl _ _ | assumption | (refine Below.alloc ?_ (by first | omega | (simp; omega) | (simp; done)) _) | (refine Below.setCell ?_ (by first | omega | (simp; omega) | (simp; done)) _) | (refine Below.drew ?_) | (refine belowN ?_ _) | (refine Below.trans ?_ (Below.mono ‹Below _ _ _› (by first | omega | (simp; omega) | (simp; done))))))⟩
      · simp only [Bool.not_eq_true] at hp
        rw [hp]
        go_wp2
        go_roundw
        case rel => exact ⟨k + 1, by omega, by go_num, by (repeat (first | exact Below.refl _ _ | assumption | (refine Below.alloc ?_ (by first | omega | (simp; omega) | (simp; done)) _) | (refine Below.setCell ?_ (by first | omega | (simp; omega) | (simp; done)) _) | (refine Below.drew ?_) | (refine belowN ?_ _) | (refine Below.trans ?_ (Below.mono ‹Below _ _ _› (by first | omega | (simp; omega) | (simp; done)))))), fun j hj hj' => if h : j < k then hno.out j hj h else by obtain rfl : j = k := (by omega); exact HT.out ▸ hp⟩
        case measure => simp [intOf]; omega
    · go_wp2
      go_ret
      obtain rfl : k = ts.length := by omega
      exact ⟨ret_int (firstIdx_none p ts (fun j hj => hno.out j hj hj)).symm, hb⟩

theorem chsany_any (g : Nat) (cap : Array Value) (A : Option Addr) (c : Nat) (ts : List Ch) (p : Ch → Bool) (w : World)
    (hg : Ent g) (hl : ts.length ≤ 1000000) (hr : Sl Ch.cells 2 w w.heap.size A ts)
    (hf : ∀ t ∈ ts, ∀ W, Below w.heap.size w W → Calls Try.prog g (#[Value.agg #[(.int .i64 t.n), (.int .i64 t.d)]] ++ cap) W fun e W' => e = .returned (.bool (p t)) ∧ Below W.heap.size W W') :
    Calls Try.prog 96 #[.slice A ts.length c, .func (.func g) #[] cap] w fun e w' => e = .returned (.bool (ts.any p)) ∧ Below w.heap.size w w' := by
  have H := Lib.hid (chsidx_any g cap A c ts p w hg hl hr hf)
  clear hf hr hl hg
  go_enter Try.func96, Try.ntmps96
  go_wp2_with fail
  refine H.out.mono ?_
  rintro e w1 ⟨rfl, hb1⟩
  go_wp2
  go_ret
  exact ⟨ret_bool (by rw [← firstIdx_any]), hb1⟩

end Go.Proofs.Ytmfbiohdmhbkoaa

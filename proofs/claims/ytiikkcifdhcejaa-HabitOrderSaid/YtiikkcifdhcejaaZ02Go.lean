/- The library's IndexFunc and ContainsFunc at integers, lists of integers, chances. -/
import Derived.Test.YtiikkcifdhcejaaZ01Cls
namespace Go.Proofs.Ytiikkcifdhcejaa
open Go.RowKit

def Ch.cells (x : Ch) : List Value := [.int .i64 x.n, .int .i64 x.d]

set_option maxRecDepth 100000 in
theorem intsidx_any (g : Nat) (cap : Array Value) (A : Option Addr) (c : Nat) (ts : List Int) (p : Int → Bool) (w : World)
    (hg : Ent g) (hl : ts.length ≤ 1000000) (hr : Sl intCell 1 w w.heap.size A ts)
    (hf : ∀ t ∈ ts, ∀ W, Below w.heap.size w W → Calls Try.prog g (#[.int .i64 t] ++ cap) W fun e W' => e = .returned (.bool (p t)) ∧ Below W.heap.size W W') :
    Calls Try.prog 99 #[.slice A ts.length c, .func (.func g) #[] cap] w fun e w' => e = .returned (.int .i64 (firstIdx p ts)) ∧ Below w.heap.size w w' := by
  unfold Ent at hg
  have HF := Lib.hid hf; clear hf
  have HR := Lib.hid hr; clear hr
  go_enter Try.func99, Try.ntmps99
  go_wp2
  go_loopw [8] (fun i wr => ∃ k : Nat, k ≤ ts.length ∧ i = .int .i64 k ∧ Below w.heap.size w wr ∧ Hid (∀ j, (hj : j < ts.length) → j < k → p ts[j] = false)) (fun i _ => ts.length - (intOf i).toNat)
  case atStart => exact ⟨0, by omega, rfl, Below.refl _ _, fun j _ h => by omega⟩
  case round =>
    obtain ⟨k, hk, rfl, hb, hno⟩ := hrel
    by_cases hlt : k < ts.length
    · obtain ⟨ab, ao, rfl, hblk, hcell⟩ := (Sl.below HR.out hb).at_ (k := k) (fun _ => rfl) hlt
      obtain ⟨t, ht⟩ : ∃ t, ts[k] = t := ⟨_, rfl⟩
      rw [ht] at hcell
      have HM := Lib.hid (show t ∈ ts from ht ▸ List.getElem_mem hlt)
      have HT := Lib.hid ht; clear ht
      have c0 : wr.cell? ⟨ab, ao + k, none⟩ = some (.int .i64 t) := by have := hcell 0 _ rfl; simpa using this
      clear hcell
      go_wp2_with fail
      refine (HF.out t HM.out wr hb).mono ?_
      rintro e w1 ⟨rfl, hb1⟩
      have hz := hb.size
      by_cases hp : p t = true
      · rw [hp]
        go_wp2
        go_ret
        exact ⟨ret_int (firstIdx_at p ts k hlt (fun j hj => hno.out j (by omega) hj) (HT.out ▸ hp)).symm, by (repeat (first | exact Below.refl _ _ | assumption | (refine Below.alloc ?_ (by first | omega | (simp; omega) | (simp; done)) _) | (refine Below.setCell ?_ (by first | omega | (simp; omega) | (simp; done)) _) | (refine Below.drew ?_) | (refine belowN ?_ _) | (refine Below.trans ?_ (Below.mono ‹Below _ _ _› (by first | omega | (simp; omega) | (simp; done))))))⟩
      · simp only [Bool.not_eq_true] at hp
        rw [hp]
        go_wp2
        go_roundw
        case rel => exact ⟨k + 1, by omega, by go_num, by (repeat (first | exact Below.refl _ _ | assumption | (refine Below.alloc ?_ (by first | omega | (simp; omega) | (simp; done)) _) | (refine Below.setCell ?_ (by first | omega | (simp; omega) | (simp; done)) _) | (refine Below.drew ?_) | (refine belowN ?_ _) | (refine Below.trans ?_ (Below.mono ‹Below _ _ _› (by first | omega | (simp; omega) | (simp; done)))))), fun j hj hj' => if h : j < k then hno.out j hj h else by obtain rfl : j = k := (by omega); exact HT.out ▸ hp⟩
        case measure => simp [intOf]; omega
    · go_wp2
      go_ret
      obtain rfl : k = ts.length := by omega
      exact ⟨ret_int (firstIdx_none p ts (fun j hj => hno.out j hj hj)).symm, hb⟩

theorem intsany_any (g : Nat) (cap : Array Value) (A : Option Addr) (c : Nat) (ts : List Int) (p : Int → Bool) (w : World)
    (hg : Ent g) (hl : ts.length ≤ 1000000) (hr : Sl intCell 1 w w.heap.size A ts)
    (hf : ∀ t ∈ ts, ∀ W, Below w.heap.size w W → Calls Try.prog g (#[.int .i64 t] ++ cap) W fun e W' => e = .returned (.bool (p t)) ∧ Below W.heap.size W W') :
    Calls Try.prog 84 #[.slice A ts.length c, .func (.func g) #[] cap] w fun e w' => e = .returned (.bool (ts.any p)) ∧ Below w.heap.size w w' := by
  have H := Lib.hid (intsidx_any g cap A c ts p w hg hl hr hf)
  clear hf hr hl hg
  go_enter Try.func84, Try.ntmps84
  go_wp2_with fail
  refine H.out.mono ?_
  rintro e w1 ⟨rfl, hb1⟩
  go_wp2
  go_ret
  exact ⟨ret_bool (by rw [← firstIdx_any]), hb1⟩


set_option maxRecDepth 100000 in
theorem listsidx_any (g : Nat) (cap : Array Value) (A : Option Addr) (c : Nat) (ts : List LL) (p : LL → Bool) (w : World)
    (hg : Ent g) (hl : ts.length ≤ 1000000) (hr : Sl LL.cells 1 w w.heap.size A ts)
    (hf : ∀ t ∈ ts, ∀ W, Below w.heap.size w W → Calls Try.prog g (#[.slice t.a t.l.length t.c] ++ cap) W fun e W' => e = .returned (.bool (p t)) ∧ Below W.heap.size W W') :
    Calls Try.prog 85 #[.slice A ts.length c, .func (.func g) #[] cap] w fun e w' => e = .returned (.int .i64 (firstIdx p ts)) ∧ Below w.heap.size w w' := by
  unfold Ent at hg
  have HF := Lib.hid hf; clear hf
  have HR := Lib.hid hr; clear hr
  go_enter Try.func85, Try.ntmps85
  go_wp2
  go_loopw [8] (fun i wr => ∃ k : Nat, k ≤ ts.length ∧ i = .int .i64 k ∧ Below w.heap.size w wr ∧ Hid (∀ j, (hj : j < ts.length) → j < k → p ts[j] = false)) (fun i _ => ts.length - (intOf i).toNat)
  case atStart => exact ⟨0, by omega, rfl, Below.refl _ _, fun j _ h => by omega⟩
  case round =>
    obtain ⟨k, hk, rfl, hb, hno⟩ := hrel
    by_cases hlt : k < ts.length
    · obtain ⟨ab, ao, rfl, hblk, hcell⟩ := (Sl.below HR.out hb).at_ (k := k) (fun _ => rfl) hlt
      obtain ⟨t, ht⟩ : ∃ t, ts[k] = t := ⟨_, rfl⟩
      rw [ht] at hcell
      have HM := Lib.hid (show t ∈ ts from ht ▸ List.getElem_mem hlt)
      have HT := Lib.hid ht; clear ht
      have c0 : wr.cell? ⟨ab, ao + k, none⟩ = some (.slice t.a t.l.length t.c) := by have := hcell 0 _ rfl; simpa [LL.val] using this
      clear hcell
      go_wp2_with fail
      refine (HF.out t HM.out wr hb).mono ?_
      rintro e w1 ⟨rfl, hb1⟩
      have hz := hb.size
      by_cases hp : p t = true
      · rw [hp]
        go_wp2
        go_ret
        exact ⟨ret_int (firstIdx_at p ts k hlt (fun j hj => hno.out j (by omega) hj) (HT.out ▸ hp)).symm, by (repeat (first | exact Below.refl _ _ | assumption | (refine Below.alloc ?_ (by first | omega | (simp; omega) | (simp; done)) _) | (refine Below.setCell ?_ (by first | omega | (simp; omega) | (simp; done)) _) | (refine Below.drew ?_) | (refine belowN ?_ _) | (refine Below.trans ?_ (Below.mono ‹Below _ _ _› (by first | omega | (simp; omega) | (simp; done))))))⟩
      · simp only [Bool.not_eq_true] at hp
        rw [hp]
        go_wp2
        go_roundw
        case rel => exact ⟨k + 1, by omega, by go_num, by (repeat (first | exact Below.refl _ _ | assumption | (refine Below.alloc ?_ (by first | omega | (simp; omega) | (simp; done)) _) | (refine Below.setCell ?_ (by first | omega | (simp; omega) | (simp; done)) _) | (refine Below.drew ?_) | (refine belowN ?_ _) | (refine Below.trans ?_ (Below.mono ‹Below _ _ _› (by first | omega | (simp; omega) | (simp; done)))))), fun j hj hj' => if h : j < k then hno.out j hj h else by obtain rfl : j = k := (by omega); exact HT.out ▸ hp⟩
        case measure => simp [intOf]; omega
    · go_wp2
      go_ret
      obtain rfl : k = ts.length := by omega
      exact ⟨ret_int (firstIdx_none p ts (fun j hj => hno.out j hj hj)).symm, hb⟩

theorem listsany_any (g : Nat) (cap : Array Value) (A : Option Addr) (c : Nat) (ts : List LL) (p : LL → Bool) (w : World)
    (hg : Ent g) (hl : ts.length ≤ 1000000) (hr : Sl LL.cells 1 w w.heap.size A ts)
    (hf : ∀ t ∈ ts, ∀ W, Below w.heap.size w W → Calls Try.prog g (#[.slice t.a t.l.length t.c] ++ cap) W fun e W' => e = .returned (.bool (p t)) ∧ Below W.heap.size W W') :
    Calls Try.prog 58 #[.slice A ts.length c, .func (.func g) #[] cap] w fun e w' => e = .returned (.bool (ts.any p)) ∧ Below w.heap.size w w' := by
  have H := Lib.hid (listsidx_any g cap A c ts p w hg hl hr hf)
  clear hf hr hl hg
  go_enter Try.func58, Try.ntmps58
  go_wp2_with fail
  refine H.out.mono ?_
  rintro e w1 ⟨rfl, hb1⟩
  go_wp2
  go_ret
  exact ⟨ret_bool (by rw [← firstIdx_any]), hb1⟩


set_option maxRecDepth 100000 in
theorem chsidx_any (g : Nat) (cap : Array Value) (A : Option Addr) (c : Nat) (ts : List Ch) (p : Ch → Bool) (w : World)
    (hg : Ent g) (hl : ts.length ≤ 1000000) (hr : Sl Ch.cells 2 w w.heap.size A ts)
    (hf : ∀ t ∈ ts, ∀ W, Below w.heap.size w W → Calls Try.prog g (#[Value.agg #[(.int .i64 t.n), (.int .i64 t.d)]] ++ cap) W fun e W' => e = .returned (.bool (p t)) ∧ Below W.heap.size W W') :
    Calls Try.prog 100 #[.slice A ts.length c, .func (.func g) #[] cap] w fun e w' => e = .returned (.int .i64 (firstIdx p ts)) ∧ Below w.heap.size w w' := by
  unfold Ent at hg
  have HF := Lib.hid hf; clear hf
  have HR := Lib.hid hr; clear hr
  go_enter Try.func100, Try.ntmps100
  go_wp2
  go_loopw [8] (fun i wr => ∃ k : Nat, k ≤ ts.length ∧ i = .int .i64 k ∧ Below w.heap.size w wr ∧ Hid (∀ j, (hj : j < ts.length) → j < k → p ts[j] = false)) (fun i _ => ts.length - (intOf i).toNat)
  case atStart => exact ⟨0, by omega, rfl, Below.refl _ _, fun j _ h => by omega⟩
  case round =>
    obtain ⟨k, hk, rfl, hb, hno⟩ := hrel
    by_cases hlt : k < ts.length
    · obtain ⟨ab, ao, rfl, hblk, hcell⟩ := (Sl.below HR.out hb).at_ (k := k) (fun _ => rfl) hlt
      obtain ⟨t, ht⟩ : ∃ t, ts[k] = t := ⟨_, rfl⟩
      rw [ht] at hcell
      have HM := Lib.hid (show t ∈ ts from ht ▸ List.getElem_mem hlt)
      have HT := Lib.hid ht; clear ht
      have c0 : wr.cell? ⟨ab, ao + k * 2, none⟩ = some (.int .i64 t.n) := hcell 0 _ rfl
      have c1 : wr.cell? ⟨ab, ao + k * 2 + 1, none⟩ = some (.int .i64 t.d) := hcell 1 _ rfl
      clear hcell
      go_wp2_with fail
      refine (HF.out t HM.out wr hb).mono ?_
      rintro e w1 ⟨rfl, hb1⟩
      have hz := hb.size
      by_cases hp : p t = true
      · rw [hp]
        go_wp2
        go_ret
        exact ⟨ret_int (firstIdx_at p ts k hlt (fun j hj => hno.out j (by omega) hj) (HT.out ▸ hp)).symm, by (repeat (first | exact Below.refl _ _ | assumption | (refine Below.alloc ?_ (by first | omega | (simp; omega) | (simp; done)) _) | (refine Below.setCell ?_ (by first | omega | (simp; omega) | (simp; done)) _) | (refine Below.drew ?_) | (refine belowN ?_ _) | (refine Below.trans ?_ (Below.mono ‹Below _ _ _› (by first | omega | (simp; omega) | (simp; done))))))⟩
      · simp only [Bool.not_eq_true] at hp
        rw [hp]
        go_wp2
        go_roundw
        case rel => exact ⟨k + 1, by omega, by go_num, by (repeat (first | exact Below.refl _ _ | assumption | (refine Below.alloc ?_ (by first | omega | (simp; omega) | (simp; done)) _) | (refine Below.setCell ?_ (by first | omega | (simp; omega) | (simp; done)) _) | (refine Below.drew ?_) | (refine belowN ?_ _) | (refine Below.trans ?_ (Below.mono ‹Below _ _ _› (by first | omega | (simp; omega) | (simp; done)))))), fun j hj hj' => if h : j < k then hno.out j hj h else by obtain rfl : j = k := (by omega); exact HT.out ▸ hp⟩
        case measure => simp [intOf]; omega
    · go_wp2
      go_ret
      obtain rfl : k = ts.length := by omega
      exact ⟨ret_int (firstIdx_none p ts (fun j hj => hno.out j hj hj)).symm, hb⟩

theorem chsany_any (g : Nat) (cap : Array Value) (A : Option Addr) (c : Nat) (ts : List Ch) (p : Ch → Bool) (w : World)
    (hg : Ent g) (hl : ts.length ≤ 1000000) (hr : Sl Ch.cells 2 w w.heap.size A ts)
    (hf : ∀ t ∈ ts, ∀ W, Below w.heap.size w W → Calls Try.prog g (#[Value.agg #[(.int .i64 t.n), (.int .i64 t.d)]] ++ cap) W fun e W' => e = .returned (.bool (p t)) ∧ Below W.heap.size W W') :
    Calls Try.prog 88 #[.slice A ts.length c, .func (.func g) #[] cap] w fun e w' => e = .returned (.bool (ts.any p)) ∧ Below w.heap.size w w' := by
  have H := Lib.hid (chsidx_any g cap A c ts p w hg hl hr hf)
  clear hf hr hl hg
  go_enter Try.func88, Try.ntmps88
  go_wp2_with fail
  refine H.out.mono ?_
  rintro e w1 ⟨rfl, hb1⟩
  go_wp2
  go_ret
  exact ⟨ret_bool (by rw [← firstIdx_any]), hb1⟩

end Go.Proofs.Ytiikkcifdhcejaa
namespace Go.Proofs.Ytiikkcifdhcejaa

/-- the number that digits make -/
def valD (b : Nat) : List Nat → Nat
  | [] => 0
  | w :: l => w + b * valD b l
theorem valD_append (b : Nat) (m : List Nat) : ∀ l : List Nat, valD b (l ++ m) = valD b l + b ^ l.length * valD b m
  | [] => by simp [valD]
  | w :: l => by
    simp only [List.cons_append, valD, valD_append b m l, List.length_cons, Nat.pow_succ]
    rw [Nat.mul_add, Nat.mul_comm (b ^ l.length) b, Nat.mul_assoc]; omega
theorem valD_snoc (b w : Nat) (l : List Nat) : valD b (l ++ [w]) = valD b l + b ^ l.length * w := by
  rw [valD_append]; simp [valD]
theorem valD_rep (b n : Nat) : valD b (List.replicate n 0) = 0 := by
  induction n with
  | zero => rfl
  | succ n ih => rw [List.replicate_succ]; simp [valD, ih]
theorem valD_lt {b : Nat} : ∀ {l : List Nat}, (∀ w ∈ l, w < b) → valD b l < b ^ l.length
  | [], _ => by simp [valD]
  | w :: l, h => by
    have h1 := valD_lt (l := l) fun x hx => h x (by simp [hx])
    have h2 := h w (by simp)
    simp only [valD, List.length_cons, Nat.pow_succ]
    have h3 : valD b l + 1 ≤ b ^ l.length := h1
    have h4 := Nat.mul_le_mul_left b h3
    rw [Nat.mul_add, Nat.mul_comm b (b ^ l.length)] at h4
    omega
/-- digits of a number: none but the last one may be 0 -/
structure Rep (b : Nat) (l : List Nat) (n : Nat) : Prop where
  dig : ∀ w ∈ l, w < b
  val : valD b l = n
  top : ∀ x, l.getLast? = some x → x ≠ 0
theorem Rep.nil (b : Nat) : Rep b [] 0 := ⟨fun w h => (by cases h), rfl, fun x h => (by simp at h)⟩
theorem Rep.zero {b : Nat} {l : List Nat} (h : Rep b l 0) : l = [] := by
  rcases List.eq_nil_or_concat l with rfl | ⟨l', x, rfl⟩
  · rfl
  · have h1 := h.val
    rw [List.concat_eq_append, valD_snoc] at h1
    have h2 : x ≠ 0 := h.top x (by simp)
    have h4 : x < b := h.dig x (by simp)
    have h3 : 0 < b ^ l'.length * x := Nat.mul_pos (Nat.pow_pos (by omega)) (by omega)
    omega
/-- a number with more digits is greater -/
theorem Rep.len_lt {b : Nat} {l m : List Nat} {x y : Nat} (hl : Rep b l x) (hm : Rep b m y) (h : l.length < m.length) : x < y := by
  rcases List.eq_nil_or_concat m with rfl | ⟨m', z, rfl⟩
  · simp at h
  · rw [List.concat_eq_append] at h hm
    have h1 := hm.val
    rw [valD_snoc] at h1
    have h2 : z ≠ 0 := hm.top z (by simp)
    have h3 := valD_lt hl.dig
    rw [hl.val] at h3
    have hz : z < b := hm.dig z (by simp)
    have h4 : b ^ l.length ≤ b ^ m'.length := Nat.pow_le_pow_right (by omega) (by simp at h; omega)
    have h5 : b ^ m'.length * 1 ≤ b ^ m'.length * z := Nat.mul_le_mul_left _ (by omega)
    omega
/-- numbers compared -/
def cmpN (x y : Nat) : Int := if x < y then -1 else if x = y then 0 else 1
theorem cmpN_lt {x y : Nat} (h : x < y) : cmpN x y = -1 := by unfold cmpN; rw [if_pos h]
theorem cmpN_gt {x y : Nat} (h : y < x) : cmpN x y = 1 := by unfold cmpN; rw [if_neg (by omega), if_neg (by omega)]
theorem cmpN_add (x y c : Nat) : cmpN (x + c) (y + c) = cmpN x y := by
  unfold cmpN
  by_cases h1 : x < y
  · rw [if_pos h1, if_pos (by omega)]
  · rw [if_neg h1, if_neg (by omega)]
    by_cases h2 : x = y
    · rw [if_pos h2, if_pos (by omega)]
    · rw [if_neg h2, if_neg (by omega)]
theorem cmpN_eq (x : Nat) : cmpN x x = 0 := by unfold cmpN; rw [if_neg (by omega), if_pos rfl]
/-- digits compared from the last ones on: what stands behind place k is the same -/
def cmpD (l m : List Nat) : Nat → Int
  | 0 => 0
  | k + 1 => if l.getD k 0 < m.getD k 0 then -1 else if m.getD k 0 < l.getD k 0 then 1 else cmpD l m k
theorem cmpD_take {l m : List Nat} {b : Nat} (hl : ∀ w ∈ l, w < b) (hm : ∀ w ∈ m, w < b) (h : l.length = m.length) : ∀ k, k ≤ l.length → cmpD l m k = cmpN (valD b (l.take k)) (valD b (m.take k))
  | 0, _ => by simp [cmpD, cmpN]
  | k + 1, hk => by
    have h1 : k < l.length := by omega
    have h2 : k < m.length := by omega
    have e1 : l.take (k + 1) = l.take k ++ [l[k]] := List.take_succ_eq_append_getElem h1
    have e2 : m.take (k + 1) = m.take k ++ [m[k]] := List.take_succ_eq_append_getElem h2
    have g1 : l.getD k 0 = l[k] := by simp [h1]
    have g2 : m.getD k 0 = m[k] := by simp [h2]
    have l1 : (l.take k).length = k := by simp; omega
    have l2 : (m.take k).length = k := by simp; omega
    have v1 := valD_lt (b := b) (l := l.take k) fun w hw => hl w (List.mem_of_mem_take hw)
    have v2 := valD_lt (b := b) (l := m.take k) fun w hw => hm w (List.mem_of_mem_take hw)
    rw [l1] at v1; rw [l2] at v2
    rw [e1, e2, valD_snoc, valD_snoc, l1, l2]
    simp only [cmpD, g1, g2]
    have hmul : ∀ x y : Nat, x < y → b ^ k * x + b ^ k ≤ b ^ k * y := fun x y hxy => by
      have := Nat.mul_le_mul_left (b ^ k) (show x + 1 ≤ y from hxy)
      rw [Nat.mul_add] at this; omega
    by_cases c1 : l[k] < m[k]
    · rw [if_pos c1, cmpN_lt]
      have := hmul _ _ c1; omega
    · rw [if_neg c1]
      by_cases c2 : m[k] < l[k]
      · rw [if_pos c2, cmpN_gt]
        have := hmul _ _ c2; omega
      · rw [if_neg c2, cmpD_take hl hm h k (by omega)]
        have c3 : l[k] = m[k] := by omega
        rw [c3, cmpN_add]
theorem Rep.cmp_lt {b : Nat} {l m : List Nat} {x y : Nat} (hl : Rep b l x) (hm : Rep b m y) (h : l.length < m.length) : cmpN x y = -1 := cmpN_lt (hl.len_lt hm h)
theorem Rep.cmp_gt {b : Nat} {l m : List Nat} {x y : Nat} (hl : Rep b l x) (hm : Rep b m y) (h : m.length < l.length) : cmpN x y = 1 := cmpN_gt (hm.len_lt hl h)
theorem Rep.cmp_eq {b : Nat} {l m : List Nat} {x y : Nat} (hl : Rep b l x) (hm : Rep b m y) (h : l.length = m.length) : cmpN x y = cmpD l m l.length := by
  rw [cmpD_take hl.dig hm.dig h l.length (Nat.le_refl _), List.take_length, h, List.take_length, hl.val, hm.val]
/-- times a small number: the digits so far, and what is carried -/
def mulS (b n : Nat) (l : List Nat) : List Nat × Nat := l.foldl (fun s w => (s.1 ++ [(w * n + s.2) % b], (w * n + s.2) / b)) ([], 0)
theorem mulS_snoc (b n w : Nat) (l : List Nat) : mulS b n (l ++ [w]) = ((mulS b n l).1 ++ [(w * n + (mulS b n l).2) % b], (w * n + (mulS b n l).2) / b) := by
  unfold mulS; rw [List.foldl_append]; rfl
theorem list_snoc_ind {α : Type} {P : List α → Prop} (h0 : P []) (h1 : ∀ l w, P l → P (l ++ [w])) : ∀ l, P l := fun l => by
  have : ∀ n, ∀ l : List α, l.length = n → P l := by
    intro n
    induction n with
    | zero => intro l hl; rw [List.eq_nil_of_length_eq_zero hl]; exact h0
    | succ n ih =>
      intro l hl
      rcases List.eq_nil_or_concat l with rfl | ⟨l', x, rfl⟩
      · simp at hl
      · rw [List.concat_eq_append] at hl ⊢
        exact h1 l' x (ih l' (by simpa using hl))
  exact this l.length l rfl
structure MulOk (b n : Nat) (l : List Nat) (s : List Nat × Nat) : Prop where
  len : s.1.length = l.length
  dig : ∀ w ∈ s.1, w < b
  car : s.2 < n ∨ s.2 = 0
  val : valD b s.1 + b ^ l.length * s.2 = valD b l * n
theorem mulS_ok {b n : Nat} (hb : 0 < b) : ∀ l : List Nat, (∀ w ∈ l, w < b) → MulOk b n l (mulS b n l) :=
  list_snoc_ind (fun _ => ⟨rfl, fun w h => (by cases h), .inr rfl, (by simp [mulS, valD])⟩) fun l w ih hw => by
    have h := ih fun x hx => hw x (by simp [hx])
    rw [mulS_snoc]
    generalize hs : mulS b n l = s at h ⊢
    obtain ⟨o, c⟩ := s
    have h1 := h.len; have h2 := h.car; have h3 := h.val
    simp only at h1 h2 h3 ⊢
    have hwb : w < b := hw w (by simp)
    refine ⟨by simp [h1], fun x hx => ?_, ?_, ?_⟩
    · rcases List.mem_append.1 hx with hx | hx
      · exact h.dig x hx
      · rw [List.mem_singleton.1 hx]; exact Nat.mod_lt _ hb
    · rcases Nat.eq_zero_or_pos n with h0 | h0
      · subst h0
        right
        have : c = 0 := by omega
        subst this; simp
      · left
        show (w * n + c) / b < n
        rw [Nat.div_lt_iff_lt_mul hb]
        have e1 : w * n + n ≤ b * n := by
          have := Nat.mul_le_mul_right n (show w + 1 ≤ b from hwb)
          rw [Nat.add_mul] at this; omega
        rw [Nat.mul_comm n b]
        omega
    · show valD b (o ++ [(w * n + c) % b]) + b ^ (l ++ [w]).length * ((w * n + c) / b) = valD b (l ++ [w]) * n
      rw [valD_snoc, valD_snoc, h1, List.length_append, List.length_singleton, Nat.pow_succ]
      have e := Nat.div_add_mod (w * n + c) b
      generalize (w * n + c) / b = d at *
      generalize (w * n + c) % b = r at *
      rw [Nat.add_mul, ← h3]
      have e2 : b ^ l.length * (b * d + r) = b ^ l.length * (w * n + c) := by rw [e]
      rw [Nat.mul_add, Nat.mul_add, ← Nat.mul_assoc] at e2
      rw [Nat.mul_assoc (b ^ l.length) w n]
      omega
/-- times a number that is not 0 -/
def mulD (b n : Nat) (l : List Nat) : List Nat := if (mulS b n l).2 = 0 then (mulS b n l).1 else (mulS b n l).1 ++ [(mulS b n l).2]
theorem mulD_len {b n : Nat} (hb : 0 < b) {l : List Nat} (h : ∀ w ∈ l, w < b) : (mulD b n l).length ≤ l.length + 1 := by
  have := (mulS_ok (n := n) hb l h).len
  unfold mulD; split <;> simp <;> omega
theorem Rep.mul {b n : Nat} {l : List Nat} {x : Nat} (h : Rep b l x) (hn : 0 < n) (hnb : n ≤ b) : Rep b (mulD b n l) (x * n) := by
  have hb : 0 < b := by omega
  have ok := mulS_ok (n := n) hb l h.dig
  unfold mulD
  generalize hs : mulS b n l = s at ok ⊢
  obtain ⟨o, c⟩ := s
  have h1 := ok.len; have h2 := ok.car; have h3 := ok.val; have h4 := ok.dig
  simp only at h1 h2 h3 h4 ⊢
  rw [h.val] at h3
  by_cases hc : c = 0
  · rw [if_pos hc]
    subst hc
    refine ⟨h4, by omega, fun y hy => ?_⟩
    -- the last digit is not 0: else the number would be too small
    rcases List.eq_nil_or_concat o with rfl | ⟨o', z, rfl⟩
    · simp at hy
    · rw [List.concat_eq_append] at hy h1 h3 h4
      have : z = y := by simpa using hy
      subst this
      rintro rfl
      rcases List.eq_nil_or_concat l with rfl | ⟨l', t, rfl⟩
      · simp at h1
      · rw [List.concat_eq_append] at h h1
        have ht : t ≠ 0 := h.top t (by simp)
        have hx := h.val
        rw [valD_snoc] at hx
        have hlen : o'.length = l'.length := by simpa using h1
        have hlt := valD_lt (b := b) (l := o') fun w hw => h4 w (by simp [hw])
        rw [valD_snoc, hlen] at h3
        rw [hlen] at hlt
        have e1 : b ^ l'.length * 1 ≤ b ^ l'.length * t := Nat.mul_le_mul_left _ (by omega)
        have e2 : b ^ l'.length ≤ x := by omega
        have e3 : x * 1 ≤ x * n := Nat.mul_le_mul_left _ hn
        simp at h3
        omega
  · rw [if_neg hc]
    refine ⟨fun w hw => ?_, ?_, fun y hy => ?_⟩
    · rcases List.mem_append.1 hw with hw | hw
      · exact h4 w hw
      · rw [List.mem_singleton.1 hw]; omega
    · rw [valD_snoc, h1]; exact h3
    · have : c = y := by simpa using hy
      omega
end Go.Proofs.Ytiikkcifdhcejaa
namespace Go.Proofs.Ytiikkcifdhcejaa

theorem valD_set {b y : Nat} : ∀ {l : List Nat} {j : Nat} (h : j < l.length), valD b (l.set j y) + b ^ j * l[j] = valD b l + b ^ j * y
  | w :: l, 0, _ => by simp [valD]; omega
  | w :: l, j + 1, h => by
    have ih := valD_set (b := b) (y := y) (l := l) (j := j) (by simpa using h)
    simp only [List.set_cons_succ, valD, List.getElem_cons_succ, Nat.pow_succ]
    have e := congrArg (b * ·) ih
    simp only [Nat.mul_add, ← Nat.mul_assoc] at e
    rw [Nat.mul_comm (b ^ j) b]
    omega
/-- with zeros at the end the number is the same -/
theorem valD_take {b : Nat} {l : List Nat} {k : Nat} (h : ∀ j, k ≤ j → j < l.length → l.getD j 0 = 0) : valD b (l.take k) = valD b l := by
  have e : valD b l = valD b (l.take k) + b ^ (l.take k).length * valD b (l.drop k) := by rw [← valD_append, List.take_append_drop]
  have e2 : valD b (l.drop k) = 0 := by
    have hz : ∀ m : List Nat, (∀ x ∈ m, x = 0) → valD b m = 0 := by
      intro m
      induction m with
      | nil => intro _; rfl
      | cons x m ih => intro hm; simp only [valD, hm x (by simp), ih fun y hy => hm y (by simp [hy])]; simp
    refine hz _ fun x hx => ?_
    obtain ⟨j, hj, rfl⟩ := List.getElem_of_mem hx
    rw [List.length_drop] at hj
    have := h (k + j) (by omega) (by omega)
    rw [List.getElem_drop]
    simpa [List.getD, List.getElem?_eq_getElem (show k + j < l.length by omega)] using this
  rw [e, e2]; simp
/-- what stands in the table of a product behind i rows and k places of the next one; c is carried -/
structure TimOk (b : Nat) (u v : List Nat) (i k : Nat) (o : List Nat) (c : Nat) : Prop where
  len : o.length = u.length + v.length
  dig : ∀ w ∈ o, w < b
  car : c < b
  val : valD b o + b ^ (i + k) * c = valD b (u.take i) * valD b v + b ^ i * (u.getD i 0 * valD b (v.take k))
  zer : ∀ j, i + v.length ≤ j → j < o.length → o.getD j 0 = 0
theorem TimOk.start {b : Nat} (hb : 0 < b) (u v : List Nat) : TimOk b u v 0 0 (List.replicate (u.length + v.length) 0) 0 :=
  ⟨by simp, fun w hw => by rw [List.eq_of_mem_replicate hw]; exact hb, hb, by rw [valD_rep]; simp [valD], fun j _ hj => (by
    have h2 : j < u.length + v.length := by simpa using hj
    simp [List.getD, h2])⟩
theorem getD_lt {b : Nat} {l : List Nat} (h : ∀ w ∈ l, w < b) {j : Nat} (hj : j < l.length) : l.getD j 0 < b := by
  have : l.getD j 0 = l[j] := by simp [hj]
  rw [this]; exact h _ (List.getElem_mem hj)
/-- one place further -/
theorem TimOk.step {b : Nat} {u v o : List Nat} {i k c : Nat} (h : TimOk b u v i k o c) (hu : ∀ w ∈ u, w < b) (hv : ∀ w ∈ v, w < b) (hi : i < u.length) (hk : k < v.length) :
    u.getD i 0 * v.getD k 0 + o.getD (i + k) 0 + c < b * b ∧ TimOk b u v i (k + 1) (o.set (i + k) ((u.getD i 0 * v.getD k 0 + o.getD (i + k) 0 + c) % b)) ((u.getD i 0 * v.getD k 0 + o.getD (i + k) 0 + c) / b) := by
  have hlen := h.len
  have hb : 0 < b := by have := h.car; omega
  have hik : i + k < o.length := by omega
  have hx := getD_lt hu hi
  have hy := getD_lt hv hk
  have hz := getD_lt h.dig hik
  have hc := h.car
  have hgo : o.getD (i + k) 0 = o[i + k] := by simp [hik]
  have hgv : v.getD k 0 = v[k] := by simp [hk]
  have hval := h.val
  have hset := fun y => valD_set (b := b) (y := y) hik
  rw [← hgo] at hset
  have htk : valD b (v.take (k + 1)) = valD b (v.take k) + b ^ k * v.getD k 0 := by
    rw [List.take_succ_eq_append_getElem hk, valD_snoc, hgv, List.length_take, Nat.min_eq_left (by omega)]
  generalize hgx : u.getD i 0 = x at *
  generalize v.getD k 0 = y at *
  generalize o.getD (i + k) 0 = z at *
  have hlt : x * y + z + c < b * b := by
    obtain ⟨b', rfl⟩ : ∃ b', b = b' + 1 := ⟨b - 1, by omega⟩
    have h1 : x * y ≤ b' * b' := Nat.mul_le_mul (by omega) (by omega)
    have h2 : (b' + 1) * (b' + 1) = b' * b' + 2 * b' + 1 := by rw [Nat.add_mul, Nat.mul_add]; omega
    omega
  refine ⟨hlt, ⟨by simp [hlen], fun w hw => ?_, by rw [Nat.div_lt_iff_lt_mul hb]; exact hlt, ?_, fun j h1 h2 => ?_⟩⟩
  · rcases List.mem_or_eq_of_mem_set hw with hw | rfl
    · exact h.dig w hw
    · exact Nat.mod_lt _ hb
  · have e := Nat.div_add_mod (x * y + z + c) b
    have hs := hset ((x * y + z + c) % b)
    generalize (x * y + z + c) / b = d at *
    generalize (x * y + z + c) % b = r at *
    rw [hgx, htk, Nat.mul_add x]
    have e1 : b ^ (i + (k + 1)) * d = b ^ (i + k) * (b * d) := by rw [← Nat.add_assoc, Nat.pow_succ, Nat.mul_assoc]
    have e2 : b ^ (i + k) * (b * d) + b ^ (i + k) * r = b ^ (i + k) * (x * y) + b ^ (i + k) * z + b ^ (i + k) * c := by rw [← Nat.mul_add, e, Nat.mul_add, Nat.mul_add]
    have e3 : b ^ i * (x * (b ^ k * y)) = b ^ (i + k) * (x * y) := by rw [Nat.pow_add, Nat.mul_assoc, ← Nat.mul_assoc x, Nat.mul_comm x (b ^ k), Nat.mul_assoc]
    rw [e1, Nat.mul_add (b ^ i), e3]
    omega
  · rw [List.length_set] at h2
    have h3 := h.zer j h1 h2
    rw [List.getD_eq_getElem?_getD, List.getElem?_set_ne (by omega), ← List.getD_eq_getElem?_getD]
    exact h3
/-- the end of a row: what is carried comes behind it -/
theorem TimOk.row {b : Nat} {u v o : List Nat} {i c : Nat} (h : TimOk b u v i v.length o c) (hi : i < u.length) : TimOk b u v (i + 1) 0 (o.set (i + v.length) c) 0 := by
  have hlen := h.len
  have hb : 0 < b := by have := h.car; omega
  have hik : i + v.length < o.length := by omega
  have hz := h.zer _ (Nat.le_refl _) hik
  have hgo : o.getD (i + v.length) 0 = o[i + v.length] := by simp [hik]
  have hval := h.val
  have hset := valD_set (b := b) (y := c) hik
  rw [← hgo, hz] at hset
  have hgu : u.getD i 0 = u[i] := by simp [hi]
  rw [List.take_length, hgu] at hval
  refine ⟨by simp [hlen], fun w hw => ?_, hb, ?_, fun j h1 h2 => ?_⟩
  · rcases List.mem_or_eq_of_mem_set hw with hw | rfl
    · exact h.dig w hw
    · exact h.car
  · rw [List.take_succ_eq_append_getElem hi, valD_snoc, List.length_take, Nat.min_eq_left (by omega), Nat.add_mul, Nat.mul_assoc (b ^ i)]
    simp [valD] at hset ⊢
    omega
  · rw [List.length_set] at h2
    have h3 := h.zer j (by omega) h2
    rw [List.getD_eq_getElem?_getD, List.getElem?_set_ne (by omega), ← List.getD_eq_getElem?_getD]
    exact h3
theorem TimOk.end_ {b : Nat} {u v o : List Nat} {c x y : Nat} (h : TimOk b u v u.length 0 o c) (hu : valD b u = x) (hv : valD b v = y) (hc : c = 0) : valD b o = x * y := by
  have := h.val
  subst hc
  rw [List.take_length, hu, hv] at this
  simpa [valD] using this
/-- zeros at the end struck -/
structure TopOk (b : Nat) (o : List Nat) (k : Nat) (n : Nat) : Prop where
  le : k ≤ o.length
  dig : ∀ w ∈ o, w < b
  val : valD b (o.take k) = n
theorem TopOk.less {b k n : Nat} {o : List Nat} (h : TopOk b o (k + 1) n) (hz : o.getD k 0 = 0) : TopOk b o k n := by
  have hk : k < o.length := by have := h.le; omega
  refine ⟨by omega, h.dig, ?_⟩
  have := h.val
  rw [List.take_succ_eq_append_getElem hk, valD_snoc] at this
  have e : o[k] = 0 := by simpa [hk] using hz
  rw [e] at this
  simpa using this
theorem TopOk.rep0 {b n : Nat} {o : List Nat} (h : TopOk b o 0 n) : Rep b (o.take 0) n := by
  have := h.val
  simp [valD] at this
  subst this
  rw [List.take_zero]; exact Rep.nil b
theorem TopOk.rep {b k n : Nat} {o : List Nat} (h : TopOk b o (k + 1) n) (hz : o.getD k 0 ≠ 0) : Rep b (o.take (k + 1)) n := by
  have hk : k < o.length := by have := h.le; omega
  have e : o.getD k 0 = o[k] := by simp [hk]
  refine ⟨fun w hw => h.dig w (List.mem_of_mem_take hw), h.val, fun x hx => ?_⟩
  have h2 : (o.take (k + 1)).getLast? = some o[k] := by rw [List.take_succ_eq_append_getElem hk, List.getLast?_concat]
  rw [h2] at hx
  have := Option.some.inj hx
  omega
end Go.Proofs.Ytiikkcifdhcejaa
namespace Go.Proofs.Ytiikkcifdhcejaa

/-- a model -/
structure HMd where
  kind : Int
  rows : List (List Int)
  after : Int
/-- the sum of a row -/
def totI : List Int → Int
  | [] => 0
  | w :: l => w + totI l
theorem totI_snoc (w : Int) : ∀ l : List Int, totI (l ++ [w]) = totI l + w
  | [] => by simp [totI]
  | x :: l => by simp only [List.cons_append, totI, totI_snoc w l]; omega
/-- how often a number occurs -/
def cntI (x : Int) : List Int → Int
  | [] => 0
  | y :: l => (if y = x then 1 else 0) + cntI x l
theorem cntI_snoc (x y : Int) : ∀ l : List Int, cntI x (l ++ [y]) = cntI x l + if y = x then 1 else 0
  | [] => by simp [cntI]
  | z :: l => by simp only [List.cons_append, cntI, cntI_snoc x y l]; omega
theorem cntI_bd (x : Int) : ∀ l : List Int, 0 ≤ cntI x l ∧ cntI x l ≤ l.length
  | [] => by simp [cntI]
  | z :: l => by
    have := cntI_bd x l
    simp only [cntI, List.length_cons]
    split <;> omega
def HMd.outs (m : HMd) : Nat := match m.rows with
  | [] => 0
  | r :: _ => r.length
def HMd.row0 (m : HMd) : List Int := m.rows.getD 0 []
/-- a row of n weights is valid -/
def rowB (n : Nat) (r : List Int) : Bool := decide (r.length = n) && (r.all fun w => decide (0 ≤ w ∧ w ≤ 1000)) && decide (0 < totI r)
/-- a model is valid -/
def modB (m : HMd) : Bool := decide (1 ≤ m.outs ∧ m.outs ≤ 32) && m.rows.all (rowB m.outs) &&
  (if m.kind = 1 then decide (m.rows.length = 1 ∧ m.after = 0)
   else if m.kind = 2 then decide (m.rows.length = m.outs + 1 ∧ m.after = 0)
   else if m.kind = 3 then decide (m.rows.length = 1 ∧ 1 ≤ m.after ∧ m.after ≤ totI m.row0)
   else false)
/-- the weight of a cast, and the sum of the weights -/
def wtI (m : HMd) (l : List Int) (i : Nat) : Int × Int :=
  let x := l.getD i 0
  if m.kind = 2 ∧ 0 < i then ((m.rows.getD (l.getD (i - 1) 0 + 1).toNat []).getD x.toNat 0, totI (m.rows.getD (l.getD (i - 1) 0 + 1).toNat []))
  else if m.kind = 3 then (max 0 (m.row0.getD x.toNat 0 - cntI x ((l.take i).drop (i - i % m.after.toNat))), totI m.row0 - ((i % m.after.toNat : Nat) : Int))
  else (m.row0.getD x.toNat 0, totI m.row0)
/-- what a hand knows: the row that comes next, the cards that are left, how many lie aside -/
structure HSt where
  next : Nat
  left : List Int
  aside : Nat
/-- one cast -/
def HSt.cast (m : HMd) (s : HSt) (x : Int) : HSt × (Int × Int) :=
  if m.kind = 2 then (⟨(x + 1).toNat, s.left, s.aside⟩, ((m.rows.getD s.next []).getD x.toNat 0, totI (m.rows.getD s.next [])))
  else if m.kind = 3 then
    let left := if s.aside = 0 then m.row0 else s.left
    (⟨s.next, left.set x.toNat (left.getD x.toNat 0 - 1), (s.aside + 1) % m.after.toNat⟩, (max (left.getD x.toNat 0) 0, totI m.row0 - (s.aside : Int)))
  else (s, (m.row0.getD x.toNat 0, totI m.row0))
/-- what a hand knows behind i casts -/
structure HOk (m : HMd) (l : List Int) (i : Nat) (s : HSt) : Prop where
  next : m.kind = 2 → s.next = if i = 0 then 0 else (l.getD (i - 1) 0 + 1).toNat
  aside : m.kind = 3 → s.aside = i % m.after.toNat
  len : m.kind = 3 → s.aside ≠ 0 → s.left.length = m.row0.length
  left : m.kind = 3 → s.aside ≠ 0 → ∀ y, y < m.row0.length → s.left.getD y 0 = m.row0.getD y 0 - cntI (y : Int) ((l.take i).drop (i - i % m.after.toNat))
theorem HOk.start (m : HMd) (l : List Int) : HOk m l 0 ⟨0, [], 0⟩ := ⟨fun _ => rfl, fun _ => by simp, fun _ h => absurd rfl h, fun _ h => absurd rfl h⟩
theorem take_drop_snoc {l : List Int} {i k : Nat} (hi : i < l.length) : (l.take (i + 1)).drop (i - k) = (l.take i).drop (i - k) ++ [l.getD i 0] := by
  rw [List.take_succ_eq_append_getElem hi, List.drop_append_of_le_length (by simp; omega)]
  simp [hi]
/-- a cast has the weight and the sum of the document, and the hand knows on -/
theorem HOk.cast {m : HMd} {l : List Int} {i : Nat} {s : HSt} (h : HOk m l i s) (hi : i < l.length) (ha : m.kind = 3 → 1 ≤ m.after) (hx : 0 ≤ l.getD i 0) (hxl : (l.getD i 0).toNat < m.row0.length) :
    (s.cast m (l.getD i 0)).2 = wtI m l i ∧ HOk m l (i + 1) (s.cast m (l.getD i 0)).1 := by
  by_cases h2 : m.kind = 2
  · have hn := h.next h2
    unfold HSt.cast wtI
    simp only [if_pos h2]
    constructor
    · by_cases h0 : i = 0
      · subst h0
        simp only [if_true] at hn
        rw [hn, if_neg (by omega), if_neg (by omega)]
        rfl
      · rw [if_neg h0] at hn
        rw [hn, if_pos ⟨h2, by omega⟩]
    · exact ⟨fun _ => by simp, fun e => by omega, fun e => by omega, fun e => by omega⟩
  · by_cases h3 : m.kind = 3
    · have hA := h.aside h3
      have ha1 := ha h3
      obtain ⟨A, hAe⟩ : ∃ A, A = m.after.toNat := ⟨_, rfl⟩
      have hA0 : 0 < A := by omega
      have hmod := Nat.mod_lt i hA0
      have hle : i % A ≤ i := Nat.mod_le i A
      obtain ⟨x, hxe⟩ : ∃ x : Nat, l.getD i 0 = (x : Int) := ⟨(l.getD i 0).toNat, by omega⟩
      have hxl2 : x < m.row0.length := by rw [hxe] at hxl; simpa using hxl
      -- the cards that are left
      have hleft : ∀ y, y < m.row0.length → (if s.aside = 0 then m.row0 else s.left).getD y 0 = m.row0.getD y 0 - cntI (y : Int) ((l.take i).drop (i - i % A)) := fun y hy => by
        by_cases h0 : s.aside = 0
        · rw [if_pos h0]
          rw [h0] at hA
          rw [← hAe] at hA
          rw [← hA, Nat.sub_zero, List.drop_eq_nil_of_le (by simp; omega)]
          simp [cntI]
        · rw [if_neg h0]
          have := h.left h3 h0 y hy
          rwa [← hAe] at this
      have hlen : (if s.aside = 0 then m.row0 else s.left).length = m.row0.length := by
        by_cases h0 : s.aside = 0
        · rw [if_pos h0]
        · rw [if_neg h0]; exact h.len h3 h0
      unfold HSt.cast wtI
      simp only [if_neg h2, if_pos h3, if_neg (show ¬ (m.kind = 2 ∧ 0 < i) from fun e => h2 e.1), hxe, Int.toNat_natCast, ← hAe]
      rw [← hAe] at hA
      constructor
      · rw [hleft x hxl2, hA, Int.max_comm]
      · have hsucc : (s.aside + 1) % A = (i + 1) % A := by rw [hA, Nat.mod_add_mod]
        refine ⟨fun e => absurd e h2, fun _ => by simp only [← hAe]; exact hsucc, fun _ _ => by simp [hlen], fun _ hne y hy => ?_⟩
        simp only [← hAe] at hne ⊢
        rw [hsucc] at hne
        -- no new round: the casts since the deck was put together are one more
        have hm : (i + 1) % A = i % A + 1 := by
          have h5 : i % A + 1 < A ∨ i % A + 1 = A := by omega
          rcases h5 with h5 | h5
          · rw [← Nat.mod_add_mod, Nat.mod_eq_of_lt h5]
          · exfalso
            apply hne
            rw [← Nat.mod_add_mod, h5, Nat.mod_self]
        have e1 : i + 1 - (i + 1) % A = i - i % A := by omega
        rw [e1, take_drop_snoc hi, cntI_snoc, hxe]
        rw [List.getD_eq_getElem?_getD, List.getElem?_set]
        have hyl := hleft y hy
        by_cases e : x = y
        · subst e
          rw [if_pos rfl, if_pos (by rw [hlen]; exact hxl2)]
          simp only [Option.getD_some, if_true]
          rw [hyl]; omega
        · rw [if_neg e, ← List.getD_eq_getElem?_getD, hyl, if_neg (by omega)]
          omega
    · unfold HSt.cast wtI
      simp only [if_neg h2, if_neg h3, if_neg (show ¬ (m.kind = 2 ∧ 0 < i) from fun e => h2 e.1)]
      exact ⟨trivial, fun e => absurd e h2, fun e => absurd e h3, fun e => absurd e h3, fun e => absurd e h3⟩
/-- the shares of all casts -/
def shL (m : HMd) (l : List Int) : List (Int × Int) := (List.range l.length).map (wtI m l)
/-- the product of weights, and of sums, of the first k casts -/
def ovN (m : HMd) (l : List Int) : Nat → Nat
  | 0 => 1
  | k + 1 => ovN m l k * (wtI m l k).1.toNat
def unN (m : HMd) (l : List Int) : Nat → Nat
  | 0 => 1
  | k + 1 => unN m l k * (wtI m l k).2.toNat
/-- by which of two models a register has the greater chance -/
def cmpM (a b : HMd) (l : List Int) : Int := cmpN (ovN a l l.length * unN b l l.length) (ovN b l l.length * unN a l l.length)
end Go.Proofs.Ytiikkcifdhcejaa

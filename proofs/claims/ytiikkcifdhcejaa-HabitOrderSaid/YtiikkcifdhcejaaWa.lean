/- habit: models in memory; outcomes, total, isRow. -/
import Derived.Test.YtiikkcifdhcejaaZ02Go
import Derived.Test.YtiikkcifdhcejaaZ03Pd
namespace Go.Proofs.Ytiikkcifdhcejaa
open Go.RowKit

/-- a model, with addresses and capacities -/
structure Md where
  kind : Int
  a : Option Addr
  c : Nat
  rows : List LL
  after : Int
def Md.m (x : Md) : HMd := ⟨x.kind, x.rows.map LL.l, x.after⟩
def Md.cells (x : Md) : List Value := [.int .i64 x.kind, .slice x.a x.rows.length x.c, .int .i64 x.after]
structure Md.reads (w : World) (B : Nat) (x : Md) : Prop where
  ls : Lists w B x.a x.rows
  len : x.rows.length ≤ 1000000
  rl : ∀ r ∈ x.rows, r.l.length ≤ 1000000
theorem Md.reads.below {w w' : World} {B : Nat} {x : Md} (h : x.reads w B) (hb : Below B w w') : x.reads w' B := ⟨h.ls.below hb, h.len, h.rl⟩
theorem Md.reads.more {w : World} {B B' : Nat} {x : Md} (h : x.reads w B) (hb : B ≤ B') : x.reads w B' := ⟨h.ls.more hb, h.len, h.rl⟩
theorem totI_sumL : ∀ l : List Int, totI l = sumL l
  | [] => rfl
  | x :: l => by simp [totI, sumL, totI_sumL l]
theorem outs_eq (kd : Int) (A : Option Addr) (c : Nat) (rows : List LL) (af : Int) : (Md.m ⟨kd, A, c, rows, af⟩).outs = match rows with
  | [] => 0
  | r :: _ => r.l.length := by cases rows <;> rfl
set_option maxRecDepth 100000 in
theorem outc_any (kd : Int) (A : Option Addr) (c : Nat) (rows : List LL) (af : Int) (w : World) (hr : (Md.mk kd A c rows af).reads w w.heap.size) :
    Calls Try.prog 56 #[.agg #[.int .i64 kd, .slice A rows.length c, .int .i64 af]] w fun e w' => e = .returned (.int .i64 ((Md.m ⟨kd, A, c, rows, af⟩).outs : Int)) ∧ Below w.heap.size w w' := by
  rw [outs_eq]
  rcases Nat.eq_zero_or_pos rows.length with h0 | h0
  · obtain rfl := List.eq_nil_of_length_eq_zero h0
    clear hr h0
    go_enter Try.func56, Try.ntmps56
    go_wp2
    go_ret
    exact ⟨rfl, by (repeat (first | exact Below.refl _ _ | assumption | (refine Below.alloc ?_ (by first | omega | (simp; omega) | (simp; done)) _) | (refine Below.setCell ?_ (by first | omega | (simp; omega) | (simp; done)) _) | (refine Below.drew ?_) | (refine belowN ?_ _) | (refine Below.trans ?_ (Below.mono ‹Below _ _ _› (by first | omega | (simp; omega) | (simp; done))))))⟩
  · obtain ⟨ab, ao, rfl, hblk, hcell, -⟩ := hr.ls.at_ h0
    clear hr
    cases rows with
    | nil => simp at h0
    | cons r t =>
      simp only [List.getElem_cons_zero, Nat.add_zero] at hcell
      have d0 : decide (((r :: t).length : Int) = 0) = false := by simp; omega
      have d1 : (((r :: t).length : Int) == 0) = false := by simp; omega
      have d2 : ((r :: t).length == 0) = false := by simp
      obtain ⟨n, hn⟩ : ∃ n, n = (r :: t).length := ⟨_, rfl⟩
      rw [← hn] at h0 d0 d1 d2 ⊢
      clear hn
      go_enter Try.func56, Try.ntmps56
      go_wp2
      go_ret
      exact ⟨rfl, by (repeat (first | exact Below.refl _ _ | assumption | (refine Below.alloc ?_ (by first | omega | (simp; omega) | (simp; done)) _) | (refine Below.setCell ?_ (by first | omega | (simp; omega) | (simp; done)) _) | (refine Below.drew ?_) | (refine belowN ?_ _) | (refine Below.trans ?_ (Below.mono ‹Below _ _ _› (by first | omega | (simp; omega) | (simp; done))))))⟩
set_option maxHeartbeats 1000000 in
theorem mtotal_any (A : Option Addr) (c : Nat) (l : List Int) (w : World) (hm : l.length ≤ 1000000) (hn : ∀ x ∈ l, 0 ≤ x) (hs : sumL l ≤ 4000000000000000000) (hr : Sl intCell 1 w w.heap.size A l) :
    Calls Try.prog 60 #[.slice A l.length c] w fun e w' => e = .returned (.int .i64 (sumL l)) ∧ w = w' := by
  have HR := Lib.hid hr; have HN := Lib.hid hn
  clear hr hn
  go_enter Try.func60, Try.ntmps60
  go_wp2
  go_loop [2, 7] (fun v i => ∃ k : Nat, k ≤ l.length ∧ i = .int .i64 k ∧ v = .int .i64 (sumL (l.take k))) (fun _ i => l.length - (intOf i).toNat)
  case atStart => exact ⟨0, by omega, rfl, rfl⟩
  case round =>
    obtain ⟨k, hk, rfl, rfl⟩ := hrel
    by_cases hlt : k < l.length
    · obtain ⟨b, o, rfl, hb, hc⟩ := HR.out.int_at hlt
      have HS := Lib.hid (sumL_take l k hlt)
      have y0 := HN.out _ (List.getElem_mem hlt)
      obtain ⟨z0, z1⟩ := sumL_take_le HN.out k
      obtain ⟨z2, z3⟩ := sumL_take_le HN.out (k + 1)
      rw [HS.out] at z2 z3
      obtain ⟨s, hs'⟩ : ∃ s, s = sumL (l.take k) := ⟨_, rfl⟩
      obtain ⟨x, hx⟩ : ∃ x, x = l[k] := ⟨_, rfl⟩
      rw [← hs'] at z0 z1 z2 z3 HS ⊢
      rw [← hx] at hc HS y0 z2 z3
      clear hs' hx
      go_wp2
      go_round
      case rel => exact ⟨k + 1, by omega, by go_num, by rw [HS.out]⟩
      case measure => simp [intOf]; omega
    · obtain rfl : k = l.length := by omega
      have e := take_all_int l
      rw [e]; clear e
      go_wp2
      go_ret
      exact ⟨rfl, rfl⟩
theorem run_store_func (P : Program) (w : World) (a : Addr) (m : Mode) (f : Fn) (b c : Array Value) : (store a (.func f b c) m).run P w = stored P w a (.func f b c) m := run_store P w a _ m rfl
attribute [local go_sem] run_store_func
/-- a weight is refused -/
def badW (x : Int) : Bool := !decide (0 ≤ x ∧ x ≤ 1000)
theorem isRow1_any (x : Int) (W : World) : Calls Try.prog 82 (#[.int .i64 x] ++ #[]) W fun e W' => e = .returned (.bool (badW x)) ∧ Below W.heap.size W W' := by
  by_cases h1 : x < 0
  · have HT : Hid (badW x = true) := (by simp [badW]; omega : badW x = true)
    have t1 : decide (x < 0) = true := by simpa using h1
    go_enter Try.func82, Try.ntmps82
    go_wp2
    go_ret
    exact ⟨ret_bool HT.out.symm, by (repeat (first | exact Below.refl _ _ | assumption | (refine Below.alloc ?_ (by first | omega | (simp; omega) | (simp; done)) _) | (refine Below.setCell ?_ (by first | omega | (simp; omega) | (simp; done)) _) | (refine Below.drew ?_) | (refine belowN ?_ _) | (refine Below.trans ?_ (Below.mono ‹Below _ _ _› (by first | omega | (simp; omega) | (simp; done))))))⟩
  · have t1 : decide (x < 0) = false := by simpa using h1
    by_cases h2 : 1000 < x
    · have HT : Hid (badW x = true) := (by simp [badW]; omega : badW x = true)
      have t2 : decide (1000 < x) = true := by simpa using h2
      go_enter Try.func82, Try.ntmps82
      go_wp2
      go_ret
      exact ⟨ret_bool HT.out.symm, by (repeat (first | exact Below.refl _ _ | assumption | (refine Below.alloc ?_ (by first | omega | (simp; omega) | (simp; done)) _) | (refine Below.setCell ?_ (by first | omega | (simp; omega) | (simp; done)) _) | (refine Below.drew ?_) | (refine belowN ?_ _) | (refine Below.trans ?_ (Below.mono ‹Below _ _ _› (by first | omega | (simp; omega) | (simp; done))))))⟩
    · have HT : Hid (badW x = false) := (by simp [badW]; omega : badW x = false)
      have t2 : decide (1000 < x) = false := by simpa using h2
      go_enter Try.func82, Try.ntmps82
      go_wp2
      go_ret
      exact ⟨ret_bool HT.out.symm, by (repeat (first | exact Below.refl _ _ | assumption | (refine Below.alloc ?_ (by first | omega | (simp; omega) | (simp; done)) _) | (refine Below.setCell ?_ (by first | omega | (simp; omega) | (simp; done)) _) | (refine Below.drew ?_) | (refine belowN ?_ _) | (refine Below.trans ?_ (Below.mono ‹Below _ _ _› (by first | omega | (simp; omega) | (simp; done))))))⟩
theorem ent_isRow1 : Ent 82 := ent_of Try.func82 (by kernel_rfl) rfl
theorem ent_isRow2 : Ent 83 := ent_of Try.func83 (by kernel_rfl) rfl
theorem any_badW (l : List Int) : l.any badW = !(l.all fun w => decide (0 ≤ w ∧ w ≤ 1000)) := by
  rw [List.not_all_eq_any_not]; rfl
theorem rowB_len {n : Nat} {r : List Int} (h : r.length ≠ n) : rowB n r = false := by simp [rowB, h]
theorem rowB_bad {n : Nat} {r : List Int} (h : r.any badW = true) : rowB n r = false := by
  rw [any_badW] at h; simp only [Bool.not_eq_true'] at h; simp only [rowB, h, Bool.and_false, Bool.false_and]
theorem rowB_sum {n : Nat} {r : List Int} (h1 : r.length = n) (h : r.any badW = false) : rowB n r = decide (0 < sumL r) := by
  rw [any_badW] at h; simp only [Bool.not_eq_false'] at h; simp only [rowB, h, h1, decide_true, Bool.and_true, Bool.true_and, totI_sumL]
theorem badW_nn {r : List Int} (h : r.any badW = false) : (∀ x ∈ r, 0 ≤ x) ∧ (∀ x ∈ r, x ≤ 1000) := by
  rw [any_badW] at h; simp only [Bool.not_eq_false', List.all_eq_true, decide_eq_true_eq] at h
  exact ⟨fun x hx => (h x hx).1, fun x hx => (h x hx).2⟩
set_option maxRecDepth 100000 in
set_option maxHeartbeats 1000000 in
theorem isRow2_any (n : Nat) (b0 b1 : Nat) (A : Option Addr) (c : Nat) (l : List Int) (w : World) (hl : l.length ≤ 1000000) (g0 : Blk w b0 #[.int .i64 n] 3) (g1 : Blk w b1 #[.func (.func 82) #[] #[]] 136) (hr : Sl intCell 1 w w.heap.size A l) :
    Calls Try.prog 83 (#[.slice A l.length c] ++ #[.pointer (some ⟨b0, 0, none⟩), .pointer (some ⟨b1, 0, none⟩)]) w fun e w' => e = .returned (.bool (rowB n l)) ∧ Below w.heap.size w w' := by
  have z0 := g0.cell 0
  have z1 := g1.cell 0
  simp at z0 z1
  by_cases hn : l.length = n
  · have d1 : decide ((l.length : Int) = (n : Int)) = true := by simp; omega
    have d2 : ((l.length : Int) == (n : Int)) = true := by simp; omega
    have d3 : (l.length == n) = true := by simp; omega
    have HA := Lib.hid (fun W (hW : Below w.heap.size w W) => intsany_any 82 #[] A c l badW W ent_isRow1 hl ((hr.below hW).more hW.size) (fun t _ W2 _ => isRow1_any t W2))
    cases hb : l.any badW with
    | true =>
      have HT := Lib.hid (rowB_bad (n := n) hb)
      rw [hb] at HA
      clear hr hb hn
      go_enter Try.func83, Try.ntmps83
      go_wp2_with (go_at_call 84; refine (HA.out _ (by (repeat (first | exact Below.refl _ _ | assumption | (refine Below.alloc ?_ (by first | omega | (simp; omega) | (simp; done)) _) | (refine Below.setCell ?_ (by first | omega | (simp; omega) | (simp; done)) _) | (refine Below.drew ?_) | (refine belowN ?_ _) | (refine Below.trans ?_ (Below.mono ‹Below _ _ _› (by first | omega | (simp; omega) | (simp; done)))))))).mono ?_; rintro _ w1 ⟨rfl, hb1⟩)
      go_ret
      exact ⟨ret_bool HT.out.symm, hb1⟩
    | false =>
      have HT := Lib.hid (rowB_sum hn hb)
      rw [hb] at HA
      obtain ⟨n1, n2⟩ := badW_nn hb
      have HS := Lib.hid (fun W (hW : Below w.heap.size w W) => mtotal_any A c l W hl n1 (by have := totI_le n2; rw [totI_sumL] at this; omega) ((hr.below hW).more hW.size))
      clear hr hb hn n1 n2
      obtain ⟨s, hs⟩ : ∃ s, s = sumL l := ⟨_, rfl⟩
      rw [← hs] at HS HT
      clear hs
      go_enter Try.func83, Try.ntmps83
      go_wp2_with (first | (go_at_call 84; refine (HA.out _ (by (repeat (first | exact Below.refl _ _ | assumption | (refine Below.alloc ?_ (by first | omega | (simp; omega) | (simp; done)) _) | (refine Below.setCell ?_ (by first | omega | (simp; omega) | (simp; done)) _) | (refine Below.drew ?_) | (refine belowN ?_ _) | (refine Below.trans ?_ (Below.mono ‹Below _ _ _› (by first | omega | (simp; omega) | (simp; done)))))))).mono ?_; rintro _ w1 ⟨rfl, hb1⟩) | (go_at_call 60; refine (HS.out _ hb1).mono ?_; rintro _ _ ⟨rfl, rfl⟩))
      go_ret
      exact ⟨ret_bool HT.out.symm, hb1⟩
  · have d1 : decide ((l.length : Int) = (n : Int)) = false := by simp; omega
    have d2 : ((l.length : Int) == (n : Int)) = false := by simp; omega
    have d3 : (l.length == n) = false := by simp; omega
    have HT := Lib.hid (rowB_len (n := n) hn)
    clear hr hn
    go_enter Try.func83, Try.ntmps83
    go_wp2
    go_ret
    exact ⟨ret_bool HT.out.symm, by (repeat (first | exact Below.refl _ _ | assumption | (refine Below.alloc ?_ (by first | omega | (simp; omega) | (simp; done)) _) | (refine Below.setCell ?_ (by first | omega | (simp; omega) | (simp; done)) _) | (refine Below.drew ?_) | (refine belowN ?_ _) | (refine Below.trans ?_ (Below.mono ‹Below _ _ _› (by first | omega | (simp; omega) | (simp; done))))))⟩
set_option maxRecDepth 100000 in
theorem isRow_any (n : Nat) (w : World) :
    Calls Try.prog 57 #[.int .i64 n] w fun e w' => ∃ b0 b1 : Nat, e = .returned (.func (.func 83) #[] #[.pointer (some ⟨b0, 0, none⟩), .pointer (some ⟨b1, 0, none⟩)]) ∧ Blk w' b0 #[.int .i64 n] 3 ∧ Blk w' b1 #[.func (.func 82) #[] #[]] 136 ∧ w.heap.size ≤ b0 ∧ w.heap.size ≤ b1 ∧ Below w.heap.size w w' := by
  go_enter Try.func57, Try.ntmps57
  go_wp2
  go_ret
  refine ⟨_, _, rfl, ?_, ?_, ?_, ?_, by (repeat (first | exact Below.refl _ _ | assumption | (refine Below.alloc ?_ (by first | omega | (simp; omega) | (simp; done)) _) | (refine Below.setCell ?_ (by first | omega | (simp; omega) | (simp; done)) _) | (refine Below.drew ?_) | (refine belowN ?_ _) | (refine Below.trans ?_ (Below.mono ‹Below _ _ _› (by first | omega | (simp; omega) | (simp; done))))))⟩
  · exact (Blk.new w _ _).alloc _
  · exact Blk.at_ (by simp)
  · exact Nat.le_refl _
  · simp
theorem chk1_any (n : Nat) (p b0 b1 : Nat) (A : Option Addr) (c : Nat) (l : List Int) (w : World) (hl : l.length ≤ 1000000) (gp : Blk w p #[.func (.func 83) #[] #[.pointer (some ⟨b0, 0, none⟩), .pointer (some ⟨b1, 0, none⟩)]] 102) (g0 : Blk w b0 #[.int .i64 n] 3) (g1 : Blk w b1 #[.func (.func 82) #[] #[]] 136) (hr : Sl intCell 1 w w.heap.size A l) :
    Calls Try.prog 59 (#[.slice A l.length c] ++ #[.pointer (some ⟨p, 0, none⟩)]) w fun e w' => e = .returned (.bool (!rowB n l)) ∧ Below w.heap.size w w' := by
  have zp := gp.cell 0
  simp at zp
  have HA := Lib.hid (isRow2_any n b0 b1 A c l w hl g0 g1 hr)
  have E := ent_isRow2
  unfold Ent at E
  obtain ⟨v, hv⟩ : ∃ v, v = rowB n l := ⟨_, rfl⟩
  rw [← hv] at HA ⊢
  clear hv g0 g1 gp hr
  go_enter Try.func59, Try.ntmps59
  go_wp2_with fail
  refine HA.out.mono ?_
  rintro _ w1 ⟨rfl, hb1⟩
  go_wp2
  go_ret
  exact ⟨rfl, hb1⟩
theorem ent_chk1 : Ent 59 := ent_of Try.func59 (by kernel_rfl) rfl
/-- the error of a model -/
def modE (m : HMd) : Int := if modB m then 0 else 2
theorem lists_any {n : Nat} (rows : List LL) : rows.any (fun r => !rowB n r.l) = !((rows.map LL.l).all (rowB n)) := by
  rw [List.not_all_eq_any_not, List.any_map]; rfl
theorem bl_ext0 {w W : World} (h : Below w.heap.size w W) (E : Grow W) : Below w.heap.size w (World.ext W E) := bl2 h E.h
/-- kind, number of rows and After fit -/
def kindB (kd : Int) (r n : Nat) (af t : Int) : Bool :=
  if kd = 1 then decide (r = 1 ∧ af = 0) else if kd = 2 then decide (r = n + 1 ∧ af = 0) else if kd = 3 then decide (r = 1 ∧ 1 ≤ af ∧ af ≤ t) else false
set_option maxRecDepth 100000 in
set_option maxHeartbeats 4000000 in
theorem checkM_any (kd : Int) (A : Option Addr) (c : Nat) (rows : List LL) (af : Int) (w : World) (hr : (Md.mk kd A c rows af).reads w w.heap.size) :
    Calls Try.prog 23 #[.agg #[.int .i64 kd, .slice A rows.length c, .int .i64 af]] w fun e w' => e = .returned (.int .i64 (modE (Md.m ⟨kd, A, c, rows, af⟩))) ∧ Below w.heap.size w w' := by
  have HO := Lib.hid (fun W (hW : Below w.heap.size w W) => outc_any kd A c rows af W ((hr.below hW).more hW.size))
  obtain ⟨n, hn⟩ : ∃ n, n = (Md.m ⟨kd, A, c, rows, af⟩).outs := ⟨_, rfl⟩
  have HA := Lib.hid (fun W (b0 b1 : Nat) (hW : Below w.heap.size w W) (g0 : Blk W b0 #[.int .i64 n] 3) (g1 : Blk W b1 #[.func (.func 82) #[] #[]] 136) =>
    listsany_any 59 #[.pointer (some ⟨W.heap.size, 0, none⟩)] A c rows (fun r => !rowB n r.l) (W.alloc (.cells #[.func (.func 83) #[] #[.pointer (some ⟨b0, 0, none⟩), .pointer (some ⟨b1, 0, none⟩)]] 102)) ent_chk1 hr.len
      (((hr.ls.top.below hW).more hW.size |>.below ((Below.refl _ _).alloc (Nat.le_refl _) _)).more (by simp))
      (fun t ht W2 hW2 => chk1_any n W.heap.size b0 b1 t.a t.c t.l W2 (hr.rl t ht) ((Blk.new W _ _).below hW2 (by simp)) ((g0.alloc _).below hW2 (by simp; exact Nat.lt_succ_of_lt g0.lt)) ((g1.alloc _).below hW2 (by simp; exact Nat.lt_succ_of_lt g1.lt))
        ((((((hr.ls.row t ht).below hW).more hW.size).below ((Below.refl _ _).alloc (Nat.le_refl _) _)).more (by simp)).below hW2 |>.more hW2.size)))
  rw [← hn] at HO
  have HM : Hid (modB (Md.m ⟨kd, A, c, rows, af⟩) = (decide (1 ≤ n ∧ n ≤ 32) && (rows.map LL.l).all (rowB n) && kindB kd rows.length n af (totI (rows.map LL.l |>.getD 0 [])))) := (by
    show _ = _
    rw [hn]; unfold kindB; rw [show rows.length = (rows.map LL.l).length by simp]; rfl : _ = _)
  by_cases h1 : n < 1
  · have HT : Hid (modE (Md.m ⟨kd, A, c, rows, af⟩) = 2) := (by unfold modE; rw [HM.out, decide_eq_false (by omega)]; rfl : _ = _)
    have d1 : decide ((n : Int) < 1) = true := by simp; omega
    clear hr hn
    go_enter Try.func23, Try.ntmps23
    go_wp2_with (first | (go_at_call 56; refine (HO.out _ (by (repeat (first | exact Below.refl _ _ | assumption | (refine Below.alloc ?_ (by first | omega | (simp; omega) | (simp; done)) _) | (refine Below.setCell ?_ (by first | omega | (simp; omega) | (simp; done)) _) | (refine Below.drew ?_) | (refine belowN ?_ _) | (refine Below.trans ?_ (Below.mono ‹Below _ _ _› (by first | omega | (simp; omega) | (simp; done)))))))).mono ?_; rintro _ W1 ⟨rfl, hb1⟩; have hw1 := bl2 (by (repeat (first | exact Below.refl _ _ | assumption | (refine Below.alloc ?_ (by first | omega | (simp; omega) | (simp; done)) _) | (refine Below.setCell ?_ (by first | omega | (simp; omega) | (simp; done)) _) | (refine Below.drew ?_) | (refine belowN ?_ _) | (refine Below.trans ?_ (Below.mono ‹Below _ _ _› (by first | omega | (simp; omega) | (simp; done)))))) : Below w.heap.size w _) hb1; have gm := Blk.below (Blk.new w _ _) hb1 (by first | omega | (simp; omega) | (simp; done)); (have z0 := gm.cell 0; have z1 := gm.cell 1; have z2 := gm.cell 2; simp at z0 z1 z2; have gl := gm.lt)) | (go_at_call 57; refine (isRow_any n _).mono ?_; rintro _ W2 ⟨b0, b1, rfl, g0, g1, hk0, hk1, hb2⟩; have hw2 := bl2 hw1 hb2; have gm := gm.below hb2 gm.lt; (have z0 := gm.cell 0; have z1 := gm.cell 1; have z2 := gm.cell 2; simp at z0 z1 z2; have gl := gm.lt)) | (go_at_call 58; refine (HA.out W2 b0 b1 hw2 g0 g1).mono ?_; rintro _ W3 ⟨rfl, hb3⟩; have hw3 := bl2 hw2 (bl3 (Below.refl _ _) hb3); have gm := (gm.alloc _).below hb3 (by simp; exact Nat.lt_succ_of_lt gm.lt); (have z0 := gm.cell 0; have z1 := gm.cell 1; have z2 := gm.cell 2; simp at z0 z1 z2; have gl := gm.lt)))
    go_ret
    exact ⟨by rw [HT.out]; rfl, (by have h9 := hw2; have h8 := h9.size; (repeat (first | exact Below.refl _ _ | assumption | (refine Below.alloc ?_ (by first | omega | (simp; omega) | (simp; done)) _) | (refine Below.setCell ?_ (by first | omega | (simp; omega) | (simp; done)) _) | (refine Below.drew ?_) | (refine belowN ?_ _) | (refine Below.trans ?_ (Below.mono ‹Below _ _ _› (by first | omega | (simp; omega) | (simp; done)))))))⟩
  · have d1 : decide ((n : Int) < 1) = false := by simp; omega
    by_cases h2 : 32 < n
    · have HT : Hid (modE (Md.m ⟨kd, A, c, rows, af⟩) = 2) := (by unfold modE; rw [HM.out, decide_eq_false (by omega)]; rfl : _ = _)
      have d2 : decide ((32 : Int) < (n : Int)) = true := by simp; omega
      have d2' : decide (32 < n) = true := by simp; omega
      clear hr hn
      go_enter Try.func23, Try.ntmps23
      go_wp2_with (first | (go_at_call 56; refine (HO.out _ (by (repeat (first | exact Below.refl _ _ | assumption | (refine Below.alloc ?_ (by first | omega | (simp; omega) | (simp; done)) _) | (refine Below.setCell ?_ (by first | omega | (simp; omega) | (simp; done)) _) | (refine Below.drew ?_) | (refine belowN ?_ _) | (refine Below.trans ?_ (Below.mono ‹Below _ _ _› (by first | omega | (simp; omega) | (simp; done)))))))).mono ?_; rintro _ W1 ⟨rfl, hb1⟩; have hw1 := bl2 (by (repeat (first | exact Below.refl _ _ | assumption | (refine Below.alloc ?_ (by first | omega | (simp; omega) | (simp; done)) _) | (refine Below.setCell ?_ (by first | omega | (simp; omega) | (simp; done)) _) | (refine Below.drew ?_) | (refine belowN ?_ _) | (refine Below.trans ?_ (Below.mono ‹Below _ _ _› (by first | omega | (simp; omega) | (simp; done)))))) : Below w.heap.size w _) hb1; have gm := Blk.below (Blk.new w _ _) hb1 (by first | omega | (simp; omega) | (simp; done)); (have z0 := gm.cell 0; have z1 := gm.cell 1; have z2 := gm.cell 2; simp at z0 z1 z2; have gl := gm.lt)) | (go_at_call 57; refine (isRow_any n _).mono ?_; rintro _ W2 ⟨b0, b1, rfl, g0, g1, hk0, hk1, hb2⟩; have hw2 := bl2 hw1 hb2; have gm := gm.below hb2 gm.lt; (have z0 := gm.cell 0; have z1 := gm.cell 1; have z2 := gm.cell 2; simp at z0 z1 z2; have gl := gm.lt)) | (go_at_call 58; refine (HA.out W2 b0 b1 hw2 g0 g1).mono ?_; rintro _ W3 ⟨rfl, hb3⟩; have hw3 := bl2 hw2 (bl3 (Below.refl _ _) hb3); have gm := (gm.alloc _).below hb3 (by simp; exact Nat.lt_succ_of_lt gm.lt); (have z0 := gm.cell 0; have z1 := gm.cell 1; have z2 := gm.cell 2; simp at z0 z1 z2; have gl := gm.lt)))
      go_ret
      exact ⟨by rw [HT.out]; rfl, (by have h9 := hw2; have h8 := h9.size; (repeat (first | exact Below.refl _ _ | assumption | (refine Below.alloc ?_ (by first | omega | (simp; omega) | (simp; done)) _) | (refine Below.setCell ?_ (by first | omega | (simp; omega) | (simp; done)) _) | (refine Below.drew ?_) | (refine belowN ?_ _) | (refine Below.trans ?_ (Below.mono ‹Below _ _ _› (by first | omega | (simp; omega) | (simp; done)))))))⟩
    · have d2 : decide ((32 : Int) < (n : Int)) = false := by simp; omega
      have d2' : decide (32 < n) = false := by simp; omega
      cases hv : (rows.map LL.l).all (rowB n) with
      | false =>
        have HT : Hid (modE (Md.m ⟨kd, A, c, rows, af⟩) = 2) := (by unfold modE; rw [HM.out, hv]; simp : _ = _)
        rw [lists_any, hv] at HA
        clear hr hn hv
        go_enter Try.func23, Try.ntmps23
        go_wp2_with (first | (go_at_call 56; refine (HO.out _ (by (repeat (first | exact Below.refl _ _ | assumption | (refine Below.alloc ?_ (by first | omega | (simp; omega) | (simp; done)) _) | (refine Below.setCell ?_ (by first | omega | (simp; omega) | (simp; done)) _) | (refine Below.drew ?_) | (refine belowN ?_ _) | (refine Below.trans ?_ (Below.mono ‹Below _ _ _› (by first | omega | (simp; omega) | (simp; done)))))))).mono ?_; rintro _ W1 ⟨rfl, hb1⟩; have hw1 := bl2 (by (repeat (first | exact Below.refl _ _ | assumption | (refine Below.alloc ?_ (by first | omega | (simp; omega) | (simp; done)) _) | (refine Below.setCell ?_ (by first | omega | (simp; omega) | (simp; done)) _) | (refine Below.drew ?_) | (refine belowN ?_ _) | (refine Below.trans ?_ (Below.mono ‹Below _ _ _› (by first | omega | (simp; omega) | (simp; done)))))) : Below w.heap.size w _) hb1; have gm := Blk.below (Blk.new w _ _) hb1 (by first | omega | (simp; omega) | (simp; done)); (have z0 := gm.cell 0; have z1 := gm.cell 1; have z2 := gm.cell 2; simp at z0 z1 z2; have gl := gm.lt)) | (go_at_call 57; refine (isRow_any n _).mono ?_; rintro _ W2 ⟨b0, b1, rfl, g0, g1, hk0, hk1, hb2⟩; have hw2 := bl2 hw1 hb2; have gm := gm.below hb2 gm.lt; (have z0 := gm.cell 0; have z1 := gm.cell 1; have z2 := gm.cell 2; simp at z0 z1 z2; have gl := gm.lt)) | (go_at_call 58; refine (HA.out W2 b0 b1 hw2 g0 g1).mono ?_; rintro _ W3 ⟨rfl, hb3⟩; have hw3 := bl2 hw2 (bl3 (Below.refl _ _) hb3); have gm := (gm.alloc _).below hb3 (by simp; exact Nat.lt_succ_of_lt gm.lt); (have z0 := gm.cell 0; have z1 := gm.cell 1; have z2 := gm.cell 2; simp at z0 z1 z2; have gl := gm.lt)))
        go_ret
        exact ⟨by rw [HT.out]; rfl, (by have h9 := hw3; have h8 := h9.size; (repeat (first | exact Below.refl _ _ | assumption | (refine Below.alloc ?_ (by first | omega | (simp; omega) | (simp; done)) _) | (refine Below.setCell ?_ (by first | omega | (simp; omega) | (simp; done)) _) | (refine Below.drew ?_) | (refine belowN ?_ _) | (refine Below.trans ?_ (Below.mono ‹Below _ _ _› (by first | omega | (simp; omega) | (simp; done)))))))⟩
      | true =>
        have HT : Hid (modE (Md.m ⟨kd, A, c, rows, af⟩) = if kindB kd rows.length n af (totI (rows.map LL.l |>.getD 0 [])) then 0 else 2) := (by unfold modE; rw [HM.out, hv, decide_eq_true (by omega)]; rfl : _ = _)
        rw [lists_any, hv] at HA
        obtain ⟨t, ht⟩ : ∃ t, t = totI (rows.map LL.l |>.getD 0 []) := ⟨_, rfl⟩
        rw [← ht] at HT
        clear HM
        by_cases k1 : kd = 1
        · have HK : Hid (kindB kd rows.length n af t = decide (rows.length = 1 ∧ af = 0)) := (by show _ = _; unfold kindB; rw [if_pos k1] : _)
          have e1 : (kd == 1) = true := by simpa using k1
          clear hr hn hv ht k1
          by_cases q1 : rows.length = 1
          · have HQ := Lib.hid q1
            by_cases q2 : af = 0
            · have HP : Hid ((af == 0) = true) := (by show _ = _; simpa using q2 : _)
              rw [HK.out, decide_eq_true ⟨q1, q2⟩] at HT
              clear q2 q1
              go_enter Try.func23, Try.ntmps23
              go_wp2_with (first | (go_at_call 56; refine (HO.out _ (by (repeat (first | exact Below.refl _ _ | assumption | (refine Below.alloc ?_ (by first | omega | (simp; omega) | (simp; done)) _) | (refine Below.setCell ?_ (by first | omega | (simp; omega) | (simp; done)) _) | (refine Below.drew ?_) | (refine belowN ?_ _) | (refine Below.trans ?_ (Below.mono ‹Below _ _ _› (by first | omega | (simp; omega) | (simp; done)))))))).mono ?_; rintro _ W1 ⟨rfl, hb1⟩; have hw1 := bl2 (by (repeat (first | exact Below.refl _ _ | assumption | (refine Below.alloc ?_ (by first | omega | (simp; omega) | (simp; done)) _) | (refine Below.setCell ?_ (by first | omega | (simp; omega) | (simp; done)) _) | (refine Below.drew ?_) | (refine belowN ?_ _) | (refine Below.trans ?_ (Below.mono ‹Below _ _ _› (by first | omega | (simp; omega) | (simp; done)))))) : Below w.heap.size w _) hb1; have gm := Blk.below (Blk.new w _ _) hb1 (by first | omega | (simp; omega) | (simp; done)); (have z0 := gm.cell 0; have z1 := gm.cell 1; have z2 := gm.cell 2; simp at z0 z1 z2; have gl := gm.lt)) | (go_at_call 57; refine (isRow_any n _).mono ?_; rintro _ W2 ⟨b0, b1, rfl, g0, g1, hk0, hk1, hb2⟩; have hw2 := bl2 hw1 hb2; have gm := gm.below hb2 gm.lt; (have z0 := gm.cell 0; have z1 := gm.cell 1; have z2 := gm.cell 2; simp at z0 z1 z2; have gl := gm.lt)) | (go_at_call 58; refine (HA.out W2 b0 b1 hw2 g0 g1).mono ?_; rintro _ W3 ⟨rfl, hb3⟩; have hw3 := bl2 hw2 (bl3 (Below.refl _ _) hb3); have gm := (gm.alloc _).below hb3 (by simp; exact Nat.lt_succ_of_lt gm.lt); (have z0 := gm.cell 0; have z1 := gm.cell 1; have z2 := gm.cell 2; simp at z0 z1 z2; have gl := gm.lt)))
              (refine wp_region_ext (by kernel_rfl) (by kernel_rfl) ?_; (repeat (go_big_quiet_step(fail))); with_reducible refine wpQuiet_nil ?_; intro w1 hw1; have hb1 := ext_below hw1; clear hw1)
              have hw4 := bl2 hw3 hb1
              have gm := gm.below hb1 gm.lt
              (have z0 := gm.cell 0; have z1 := gm.cell 1; have z2 := gm.cell 2; simp at z0 z1 z2; have gl := gm.lt)
              go_wp2
              all_goals first
                | (exfalso; have q := HQ.out; omega)
                | (exfalso; have q := HP.out; rename_i h9; rw [q] at h9; cases h9; done)
                | (exfalso; have q := HP.out; rename_i h9; rw [q] at h9; exact h9 rfl)
                | (go_ret; exact ⟨by rw [HT.out]; rfl, hw4⟩)
            · have HP : Hid ((af == 0) = false) := (by show _ = _; simpa using q2 : _)
              rw [HK.out, decide_eq_false (fun h => q2 h.2)] at HT
              clear q2 q1
              go_enter Try.func23, Try.ntmps23
              go_wp2_with (first | (go_at_call 56; refine (HO.out _ (by (repeat (first | exact Below.refl _ _ | assumption | (refine Below.alloc ?_ (by first | omega | (simp; omega) | (simp; done)) _) | (refine Below.setCell ?_ (by first | omega | (simp; omega) | (simp; done)) _) | (refine Below.drew ?_) | (refine belowN ?_ _) | (refine Below.trans ?_ (Below.mono ‹Below _ _ _› (by first | omega | (simp; omega) | (simp; done)))))))).mono ?_; rintro _ W1 ⟨rfl, hb1⟩; have hw1 := bl2 (by (repeat (first | exact Below.refl _ _ | assumption | (refine Below.alloc ?_ (by first | omega | (simp; omega) | (simp; done)) _) | (refine Below.setCell ?_ (by first | omega | (simp; omega) | (simp; done)) _) | (refine Below.drew ?_) | (refine belowN ?_ _) | (refine Below.trans ?_ (Below.mono ‹Below _ _ _› (by first | omega | (simp; omega) | (simp; done)))))) : Below w.heap.size w _) hb1; have gm := Blk.below (Blk.new w _ _) hb1 (by first | omega | (simp; omega) | (simp; done)); (have z0 := gm.cell 0; have z1 := gm.cell 1; have z2 := gm.cell 2; simp at z0 z1 z2; have gl := gm.lt)) | (go_at_call 57; refine (isRow_any n _).mono ?_; rintro _ W2 ⟨b0, b1, rfl, g0, g1, hk0, hk1, hb2⟩; have hw2 := bl2 hw1 hb2; have gm := gm.below hb2 gm.lt; (have z0 := gm.cell 0; have z1 := gm.cell 1; have z2 := gm.cell 2; simp at z0 z1 z2; have gl := gm.lt)) | (go_at_call 58; refine (HA.out W2 b0 b1 hw2 g0 g1).mono ?_; rintro _ W3 ⟨rfl, hb3⟩; have hw3 := bl2 hw2 (bl3 (Below.refl _ _) hb3); have gm := (gm.alloc _).below hb3 (by simp; exact Nat.lt_succ_of_lt gm.lt); (have z0 := gm.cell 0; have z1 := gm.cell 1; have z2 := gm.cell 2; simp at z0 z1 z2; have gl := gm.lt)))
              (refine wp_region_ext (by kernel_rfl) (by kernel_rfl) ?_; (repeat (go_big_quiet_step(fail))); with_reducible refine wpQuiet_nil ?_; intro w1 hw1; have hb1 := ext_below hw1; clear hw1)
              have hw4 := bl2 hw3 hb1
              have gm := gm.below hb1 gm.lt
              (have z0 := gm.cell 0; have z1 := gm.cell 1; have z2 := gm.cell 2; simp at z0 z1 z2; have gl := gm.lt)
              go_wp2
              all_goals first
                | (exfalso; have q := HQ.out; omega)
                | (exfalso; have q := HP.out; rename_i h9; rw [q] at h9; cases h9; done)
                | (exfalso; have q := HP.out; rename_i h9; rw [q] at h9; exact h9 rfl)
                | (go_ret; exact ⟨by rw [HT.out]; rfl, hw4⟩)
          · have HQ := Lib.hid q1
            have HP := Lib.hid trivial
            rw [HK.out, decide_eq_false (fun h => q1 h.1)] at HT
            clear q1
            go_enter Try.func23, Try.ntmps23
            go_wp2_with (first | (go_at_call 56; refine (HO.out _ (by (repeat (first | exact Below.refl _ _ | assumption | (refine Below.alloc ?_ (by first | omega | (simp; omega) | (simp; done)) _) | (refine Below.setCell ?_ (by first | omega | (simp; omega) | (simp; done)) _) | (refine Below.drew ?_) | (refine belowN ?_ _) | (refine Below.trans ?_ (Below.mono ‹Below _ _ _› (by first | omega | (simp; omega) | (simp; done)))))))).mono ?_; rintro _ W1 ⟨rfl, hb1⟩; have hw1 := bl2 (by (repeat (first | exact Below.refl _ _ | assumption | (refine Below.alloc ?_ (by first | omega | (simp; omega) | (simp; done)) _) | (refine Below.setCell ?_ (by first | omega | (simp; omega) | (simp; done)) _) | (refine Below.drew ?_) | (refine belowN ?_ _) | (refine Below.trans ?_ (Below.mono ‹Below _ _ _› (by first | omega | (simp; omega) | (simp; done)))))) : Below w.heap.size w _) hb1; have gm := Blk.below (Blk.new w _ _) hb1 (by first | omega | (simp; omega) | (simp; done)); (have z0 := gm.cell 0; have z1 := gm.cell 1; have z2 := gm.cell 2; simp at z0 z1 z2; have gl := gm.lt)) | (go_at_call 57; refine (isRow_any n _).mono ?_; rintro _ W2 ⟨b0, b1, rfl, g0, g1, hk0, hk1, hb2⟩; have hw2 := bl2 hw1 hb2; have gm := gm.below hb2 gm.lt; (have z0 := gm.cell 0; have z1 := gm.cell 1; have z2 := gm.cell 2; simp at z0 z1 z2; have gl := gm.lt)) | (go_at_call 58; refine (HA.out W2 b0 b1 hw2 g0 g1).mono ?_; rintro _ W3 ⟨rfl, hb3⟩; have hw3 := bl2 hw2 (bl3 (Below.refl _ _) hb3); have gm := (gm.alloc _).below hb3 (by simp; exact Nat.lt_succ_of_lt gm.lt); (have z0 := gm.cell 0; have z1 := gm.cell 1; have z2 := gm.cell 2; simp at z0 z1 z2; have gl := gm.lt)))
            (refine wp_region_ext (by kernel_rfl) (by kernel_rfl) ?_; (repeat (go_big_quiet_step(fail))); with_reducible refine wpQuiet_nil ?_; intro w1 hw1; have hb1 := ext_below hw1; clear hw1)
            have hw4 := bl2 hw3 hb1
            have gm := gm.below hb1 gm.lt
            (have z0 := gm.cell 0; have z1 := gm.cell 1; have z2 := gm.cell 2; simp at z0 z1 z2; have gl := gm.lt)
            go_wp2
            all_goals first
              | (exfalso; have q := HQ.out; omega)
              | (exfalso; have q := HP.out; rename_i h9; rw [q] at h9; cases h9; done)
              | (exfalso; have q := HP.out; rename_i h9; rw [q] at h9; exact h9 rfl)
              | (go_ret; exact ⟨by rw [HT.out]; rfl, hw4⟩)
        · have e1 : (kd == 1) = false := by simpa using k1
          by_cases k2 : kd = 2
          · have HK : Hid (kindB kd rows.length n af t = decide (rows.length = n + 1 ∧ af = 0)) := (by show _ = _; unfold kindB; rw [if_neg k1, if_pos k2] : _)
            have e2 : (kd == 2) = true := by simpa using k2
            clear hr hn hv ht k1 k2
            by_cases q1 : rows.length = n + 1
            · have HQ := Lib.hid q1
              by_cases q2 : af = 0
              · have HP : Hid ((af == 0) = true) := (by show _ = _; simpa using q2 : _)
                rw [HK.out, decide_eq_true ⟨q1, q2⟩] at HT
                clear q2 q1
                go_enter Try.func23, Try.ntmps23
                go_wp2_with (first | (go_at_call 56; refine (HO.out _ (by (repeat (first | exact Below.refl _ _ | assumption | (refine Below.alloc ?_ (by first | omega | (simp; omega) | (simp; done)) _) | (refine Below.setCell ?_ (by first | omega | (simp; omega) | (simp; done)) _) | (refine Below.drew ?_) | (refine belowN ?_ _) | (refine Below.trans ?_ (Below.mono ‹Below _ _ _› (by first | omega | (simp; omega) | (simp; done)))))))).mono ?_; rintro _ W1 ⟨rfl, hb1⟩; have hw1 := bl2 (by (repeat (first | exact Below.refl _ _ | assumption | (refine Below.alloc ?_ (by first | omega | (simp; omega) | (simp; done)) _) | (refine Below.setCell ?_ (by first | omega | (simp; omega) | (simp; done)) _) | (refine Below.drew ?_) | (refine belowN ?_ _) | (refine Below.trans ?_ (Below.mono ‹Below _ _ _› (by first | omega | (simp; omega) | (simp; done)))))) : Below w.heap.size w _) hb1; have gm := Blk.below (Blk.new w _ _) hb1 (by first | omega | (simp; omega) | (simp; done)); (have z0 := gm.cell 0; have z1 := gm.cell 1; have z2 := gm.cell 2; simp at z0 z1 z2; have gl := gm.lt)) | (go_at_call 57; refine (isRow_any n _).mono ?_; rintro _ W2 ⟨b0, b1, rfl, g0, g1, hk0, hk1, hb2⟩; have hw2 := bl2 hw1 hb2; have gm := gm.below hb2 gm.lt; (have z0 := gm.cell 0; have z1 := gm.cell 1; have z2 := gm.cell 2; simp at z0 z1 z2; have gl := gm.lt)) | (go_at_call 58; refine (HA.out W2 b0 b1 hw2 g0 g1).mono ?_; rintro _ W3 ⟨rfl, hb3⟩; have hw3 := bl2 hw2 (bl3 (Below.refl _ _) hb3); have gm := (gm.alloc _).below hb3 (by simp; exact Nat.lt_succ_of_lt gm.lt); (have z0 := gm.cell 0; have z1 := gm.cell 1; have z2 := gm.cell 2; simp at z0 z1 z2; have gl := gm.lt)))
                (refine wp_region_ext (by kernel_rfl) (by kernel_rfl) ?_; (repeat (go_big_quiet_step(fail))); with_reducible refine wpQuiet_nil ?_; intro w1 hw1; have hb1 := ext_below hw1; clear hw1)
                have hw4 := bl2 hw3 hb1
                have gm := gm.below hb1 gm.lt
                (have z0 := gm.cell 0; have z1 := gm.cell 1; have z2 := gm.cell 2; simp at z0 z1 z2; have gl := gm.lt)
                go_wp2
                all_goals first
                  | (exfalso; have q := HQ.out; omega)
                  | (exfalso; have q := HP.out; rename_i h9; rw [q] at h9; cases h9; done)
                  | (exfalso; have q := HP.out; rename_i h9; rw [q] at h9; exact h9 rfl)
                  | (go_ret; exact ⟨by rw [HT.out]; rfl, hw4⟩)
              · have HP : Hid ((af == 0) = false) := (by show _ = _; simpa using q2 : _)
                rw [HK.out, decide_eq_false (fun h => q2 h.2)] at HT
                clear q2 q1
                go_enter Try.func23, Try.ntmps23
                go_wp2_with (first | (go_at_call 56; refine (HO.out _ (by (repeat (first | exact Below.refl _ _ | assumption | (refine Below.alloc ?_ (by first | omega | (simp; omega) | (simp; done)) _) | (refine Below.setCell ?_ (by first | omega | (simp; omega) | (simp; done)) _) | (refine Below.drew ?_) | (refine belowN ?_ _) | (refine Below.trans ?_ (Below.mono ‹Below _ _ _› (by first | omega | (simp; omega) | (simp; done)))))))).mono ?_; rintro _ W1 ⟨rfl, hb1⟩; have hw1 := bl2 (by (repeat (first | exact Below.refl _ _ | assumption | (refine Below.alloc ?_ (by first | omega | (simp; omega) | (simp; done)) _) | (refine Below.setCell ?_ (by first | omega | (simp; omega) | (simp; done)) _) | (refine Below.drew ?_) | (refine belowN ?_ _) | (refine Below.trans ?_ (Below.mono ‹Below _ _ _› (by first | omega | (simp; omega) | (simp; done)))))) : Below w.heap.size w _) hb1; have gm := Blk.below (Blk.new w _ _) hb1 (by first | omega | (simp; omega) | (simp; done)); (have z0 := gm.cell 0; have z1 := gm.cell 1; have z2 := gm.cell 2; simp at z0 z1 z2; have gl := gm.lt)) | (go_at_call 57; refine (isRow_any n _).mono ?_; rintro _ W2 ⟨b0, b1, rfl, g0, g1, hk0, hk1, hb2⟩; have hw2 := bl2 hw1 hb2; have gm := gm.below hb2 gm.lt; (have z0 := gm.cell 0; have z1 := gm.cell 1; have z2 := gm.cell 2; simp at z0 z1 z2; have gl := gm.lt)) | (go_at_call 58; refine (HA.out W2 b0 b1 hw2 g0 g1).mono ?_; rintro _ W3 ⟨rfl, hb3⟩; have hw3 := bl2 hw2 (bl3 (Below.refl _ _) hb3); have gm := (gm.alloc _).below hb3 (by simp; exact Nat.lt_succ_of_lt gm.lt); (have z0 := gm.cell 0; have z1 := gm.cell 1; have z2 := gm.cell 2; simp at z0 z1 z2; have gl := gm.lt)))
                (refine wp_region_ext (by kernel_rfl) (by kernel_rfl) ?_; (repeat (go_big_quiet_step(fail))); with_reducible refine wpQuiet_nil ?_; intro w1 hw1; have hb1 := ext_below hw1; clear hw1)
                have hw4 := bl2 hw3 hb1
                have gm := gm.below hb1 gm.lt
                (have z0 := gm.cell 0; have z1 := gm.cell 1; have z2 := gm.cell 2; simp at z0 z1 z2; have gl := gm.lt)
                go_wp2
                all_goals first
                  | (exfalso; have q := HQ.out; omega)
                  | (exfalso; have q := HP.out; rename_i h9; rw [q] at h9; cases h9; done)
                  | (exfalso; have q := HP.out; rename_i h9; rw [q] at h9; exact h9 rfl)
                  | (go_ret; exact ⟨by rw [HT.out]; rfl, hw4⟩)
            · have HQ := Lib.hid q1
              have HP := Lib.hid trivial
              rw [HK.out, decide_eq_false (fun h => q1 h.1)] at HT
              clear q1
              go_enter Try.func23, Try.ntmps23
              go_wp2_with (first | (go_at_call 56; refine (HO.out _ (by (repeat (first | exact Below.refl _ _ | assumption | (refine Below.alloc ?_ (by first | omega | (simp; omega) | (simp; done)) _) | (refine Below.setCell ?_ (by first | omega | (simp; omega) | (simp; done)) _) | (refine Below.drew ?_) | (refine belowN ?_ _) | (refine Below.trans ?_ (Below.mono ‹Below _ _ _› (by first | omega | (simp; omega) | (simp; done)))))))).mono ?_; rintro _ W1 ⟨rfl, hb1⟩; have hw1 := bl2 (by (repeat (first | exact Below.refl _ _ | assumption | (refine Below.alloc ?_ (by first | omega | (simp; omega) | (simp; done)) _) | (refine Below.setCell ?_ (by first | omega | (simp; omega) | (simp; done)) _) | (refine Below.drew ?_) | (refine belowN ?_ _) | (refine Below.trans ?_ (Below.mono ‹Below _ _ _› (by first | omega | (simp; omega) | (simp; done)))))) : Below w.heap.size w _) hb1; have gm := Blk.below (Blk.new w _ _) hb1 (by first | omega | (simp; omega) | (simp; done)); (have z0 := gm.cell 0; have z1 := gm.cell 1; have z2 := gm.cell 2; simp at z0 z1 z2; have gl := gm.lt)) | (go_at_call 57; refine (isRow_any n _).mono ?_; rintro _ W2 ⟨b0, b1, rfl, g0, g1, hk0, hk1, hb2⟩; have hw2 := bl2 hw1 hb2; have gm := gm.below hb2 gm.lt; (have z0 := gm.cell 0; have z1 := gm.cell 1; have z2 := gm.cell 2; simp at z0 z1 z2; have gl := gm.lt)) | (go_at_call 58; refine (HA.out W2 b0 b1 hw2 g0 g1).mono ?_; rintro _ W3 ⟨rfl, hb3⟩; have hw3 := bl2 hw2 (bl3 (Below.refl _ _) hb3); have gm := (gm.alloc _).below hb3 (by simp; exact Nat.lt_succ_of_lt gm.lt); (have z0 := gm.cell 0; have z1 := gm.cell 1; have z2 := gm.cell 2; simp at z0 z1 z2; have gl := gm.lt)))
              (refine wp_region_ext (by kernel_rfl) (by kernel_rfl) ?_; (repeat (go_big_quiet_step(fail))); with_reducible refine wpQuiet_nil ?_; intro w1 hw1; have hb1 := ext_below hw1; clear hw1)
              have hw4 := bl2 hw3 hb1
              have gm := gm.below hb1 gm.lt
              (have z0 := gm.cell 0; have z1 := gm.cell 1; have z2 := gm.cell 2; simp at z0 z1 z2; have gl := gm.lt)
              go_wp2
              all_goals first
                | (exfalso; have q := HQ.out; omega)
                | (exfalso; have q := HP.out; rename_i h9; rw [q] at h9; cases h9; done)
                | (exfalso; have q := HP.out; rename_i h9; rw [q] at h9; exact h9 rfl)
                | (go_ret; exact ⟨by rw [HT.out]; rfl, hw4⟩)
          · have e2 : (kd == 2) = false := by simpa using k2
            by_cases k3 : kd = 3
            · have e3 : (kd == 3) = true := by simpa using k3
              have hpos : 0 < rows.length := by
                cases rows with
                | nil => rw [outs_eq] at hn; simp at hn; omega
                | cons _ _ => simp
              obtain ⟨ab, ao, rfl, hblk, hcell, hsl⟩ := hr.ls.at_ hpos
              rw [Nat.add_zero] at hcell
              have hrow := List.all_eq_true.1 hv rows[0].l (List.mem_map_of_mem (List.getElem_mem hpos))
              have hnb : (rows[0].l).any badW = false := by
                cases h9 : (rows[0].l).any badW with
                | false => rfl
                | true => rw [rowB_bad h9] at hrow; cases hrow
              obtain ⟨n1, n2⟩ := badW_nn hnb
              have hts : t = sumL rows[0].l := by rw [ht, ← totI_sumL]; congr 1; simp [hpos]
              have HS := Lib.hid (fun W (hW : Below w.heap.size w W) => mtotal_any rows[0].a rows[0].c rows[0].l W (hr.rl _ (List.getElem_mem hpos)) n1 (by have := totI_le n2; rw [totI_sumL] at this; have := hr.rl _ (List.getElem_mem hpos); omega) ((hsl.below hW).more hW.size))
              rw [← hts] at HS
              have HK : Hid (kindB kd rows.length n af t = decide (rows.length = 1 ∧ 1 ≤ af ∧ af ≤ t)) := (by show _ = _; unfold kindB; rw [if_neg k1, if_neg k2, if_pos k3] : _)
              obtain ⟨r0, hr0⟩ : ∃ r0, r0 = rows[0] := ⟨_, rfl⟩
              rw [← hr0] at hcell HS
              clear hr hn hv ht k1 k2 k3 hsl hrow hnb n1 n2 hts hr0
              have hpos2 : (0 : Int) < (rows.length : Int) := by omega
              by_cases q3 : 1 ≤ af
              · have a1 : decide (1 ≤ af) = true := by simpa using q3
                by_cases q4 : af ≤ t
                · have a2 : decide (af ≤ t) = true := by simpa using q4
                  by_cases q1 : rows.length = 1
                  · rw [HK.out, decide_eq_true ⟨q1, q3, q4⟩] at HT
                    have HQ := Lib.hid q1
                    clear q1 q3 q4
                    go_enter Try.func23, Try.ntmps23
                    go_wp2_with (first | (go_at_call 56; refine (HO.out _ (by (repeat (first | exact Below.refl _ _ | assumption | (refine Below.alloc ?_ (by first | omega | (simp; omega) | (simp; done)) _) | (refine Below.setCell ?_ (by first | omega | (simp; omega) | (simp; done)) _) | (refine Below.drew ?_) | (refine belowN ?_ _) | (refine Below.trans ?_ (Below.mono ‹Below _ _ _› (by first | omega | (simp; omega) | (simp; done)))))))).mono ?_; rintro _ W1 ⟨rfl, hb1⟩; have hw1 := bl2 (by (repeat (first | exact Below.refl _ _ | assumption | (refine Below.alloc ?_ (by first | omega | (simp; omega) | (simp; done)) _) | (refine Below.setCell ?_ (by first | omega | (simp; omega) | (simp; done)) _) | (refine Below.drew ?_) | (refine belowN ?_ _) | (refine Below.trans ?_ (Below.mono ‹Below _ _ _› (by first | omega | (simp; omega) | (simp; done)))))) : Below w.heap.size w _) hb1; have gm := Blk.below (Blk.new w _ _) hb1 (by first | omega | (simp; omega) | (simp; done)); (have z0 := gm.cell 0; have z1 := gm.cell 1; have z2 := gm.cell 2; simp at z0 z1 z2; have gl := gm.lt)) | (go_at_call 57; refine (isRow_any n _).mono ?_; rintro _ W2 ⟨b0, b1, rfl, g0, g1, hk0, hk1, hb2⟩; have hw2 := bl2 hw1 hb2; have gm := gm.below hb2 gm.lt; (have z0 := gm.cell 0; have z1 := gm.cell 1; have z2 := gm.cell 2; simp at z0 z1 z2; have gl := gm.lt)) | (go_at_call 58; refine (HA.out W2 b0 b1 hw2 g0 g1).mono ?_; rintro _ W3 ⟨rfl, hb3⟩; have hw3 := bl2 hw2 (bl3 (Below.refl _ _) hb3); have gm := (gm.alloc _).below hb3 (by simp; exact Nat.lt_succ_of_lt gm.lt); (have z0 := gm.cell 0; have z1 := gm.cell 1; have z2 := gm.cell 2; simp at z0 z1 z2; have gl := gm.lt)))
                    (refine wp_region_ext (by kernel_rfl) (by kernel_rfl) ?_; (repeat (go_big_quiet_step(fail))); with_reducible refine wpQuiet_nil ?_; intro w1 hw1; have hb1 := ext_below hw1; clear hw1)
                    have hw4 := bl2 hw3 hb1
                    have gm := gm.below hb1 gm.lt
                    (have z0 := gm.cell 0; have z1 := gm.cell 1; have z2 := gm.cell 2; simp at z0 z1 z2; have gl := gm.lt)
                    have c0 := (bcell hw4).1 ab ao hblk
                    rw [hcell] at c0
                    go_wp2
                    (refine wp_region_ext (by kernel_rfl) (by kernel_rfl) ?_; (repeat (go_big_quiet_step((go_at_call 60; exact Calls.ext_same (HS.out _ (bl_ext0 hw4 _)))))); with_reducible refine wpQuiet_nil ?_; intro w1 hw1; have hb1 := ext_below hw1; clear hw1)
                    have hw5 := bl2 hw4 hb1
                    have gm := gm.below hb1 gm.lt
                    (have z0 := gm.cell 0; have z1 := gm.cell 1; have z2 := gm.cell 2; simp at z0 z1 z2; have gl := gm.lt)
                    go_wp2
                    all_goals first
                      | (exfalso; have q := HQ.out; omega)
                      | (go_ret; exact ⟨by rw [HT.out]; rfl, hw5⟩)
                  · rw [HK.out, decide_eq_false (fun h => q1 h.1)] at HT
                    have HQ := Lib.hid q1
                    clear q1 q3 q4
                    go_enter Try.func23, Try.ntmps23
                    go_wp2_with (first | (go_at_call 56; refine (HO.out _ (by (repeat (first | exact Below.refl _ _ | assumption | (refine Below.alloc ?_ (by first | omega | (simp; omega) | (simp; done)) _) | (refine Below.setCell ?_ (by first | omega | (simp; omega) | (simp; done)) _) | (refine Below.drew ?_) | (refine belowN ?_ _) | (refine Below.trans ?_ (Below.mono ‹Below _ _ _› (by first | omega | (simp; omega) | (simp; done)))))))).mono ?_; rintro _ W1 ⟨rfl, hb1⟩; have hw1 := bl2 (by (repeat (first | exact Below.refl _ _ | assumption | (refine Below.alloc ?_ (by first | omega | (simp; omega) | (simp; done)) _) | (refine Below.setCell ?_ (by first | omega | (simp; omega) | (simp; done)) _) | (refine Below.drew ?_) | (refine belowN ?_ _) | (refine Below.trans ?_ (Below.mono ‹Below _ _ _› (by first | omega | (simp; omega) | (simp; done)))))) : Below w.heap.size w _) hb1; have gm := Blk.below (Blk.new w _ _) hb1 (by first | omega | (simp; omega) | (simp; done)); (have z0 := gm.cell 0; have z1 := gm.cell 1; have z2 := gm.cell 2; simp at z0 z1 z2; have gl := gm.lt)) | (go_at_call 57; refine (isRow_any n _).mono ?_; rintro _ W2 ⟨b0, b1, rfl, g0, g1, hk0, hk1, hb2⟩; have hw2 := bl2 hw1 hb2; have gm := gm.below hb2 gm.lt; (have z0 := gm.cell 0; have z1 := gm.cell 1; have z2 := gm.cell 2; simp at z0 z1 z2; have gl := gm.lt)) | (go_at_call 58; refine (HA.out W2 b0 b1 hw2 g0 g1).mono ?_; rintro _ W3 ⟨rfl, hb3⟩; have hw3 := bl2 hw2 (bl3 (Below.refl _ _) hb3); have gm := (gm.alloc _).below hb3 (by simp; exact Nat.lt_succ_of_lt gm.lt); (have z0 := gm.cell 0; have z1 := gm.cell 1; have z2 := gm.cell 2; simp at z0 z1 z2; have gl := gm.lt)))
                    (refine wp_region_ext (by kernel_rfl) (by kernel_rfl) ?_; (repeat (go_big_quiet_step(fail))); with_reducible refine wpQuiet_nil ?_; intro w1 hw1; have hb1 := ext_below hw1; clear hw1)
                    have hw4 := bl2 hw3 hb1
                    have gm := gm.below hb1 gm.lt
                    (have z0 := gm.cell 0; have z1 := gm.cell 1; have z2 := gm.cell 2; simp at z0 z1 z2; have gl := gm.lt)
                    have c0 := (bcell hw4).1 ab ao hblk
                    rw [hcell] at c0
                    go_wp2
                    (refine wp_region_ext (by kernel_rfl) (by kernel_rfl) ?_; (repeat (go_big_quiet_step((go_at_call 60; exact Calls.ext_same (HS.out _ (bl_ext0 hw4 _)))))); with_reducible refine wpQuiet_nil ?_; intro w1 hw1; have hb1 := ext_below hw1; clear hw1)
                    have hw5 := bl2 hw4 hb1
                    have gm := gm.below hb1 gm.lt
                    (have z0 := gm.cell 0; have z1 := gm.cell 1; have z2 := gm.cell 2; simp at z0 z1 z2; have gl := gm.lt)
                    go_wp2
                    all_goals first
                      | (exfalso; have q := HQ.out; omega)
                      | (go_ret; exact ⟨by rw [HT.out]; rfl, hw5⟩)
                · have a2 : decide (af ≤ t) = false := by simpa using q4
                  rw [HK.out, decide_eq_false (fun h => q4 h.2.2)] at HT
                  have HQ := Lib.hid trivial
                  clear q3 q4
                  go_enter Try.func23, Try.ntmps23
                  go_wp2_with (first | (go_at_call 56; refine (HO.out _ (by (repeat (first | exact Below.refl _ _ | assumption | (refine Below.alloc ?_ (by first | omega | (simp; omega) | (simp; done)) _) | (refine Below.setCell ?_ (by first | omega | (simp; omega) | (simp; done)) _) | (refine Below.drew ?_) | (refine belowN ?_ _) | (refine Below.trans ?_ (Below.mono ‹Below _ _ _› (by first | omega | (simp; omega) | (simp; done)))))))).mono ?_; rintro _ W1 ⟨rfl, hb1⟩; have hw1 := bl2 (by (repeat (first | exact Below.refl _ _ | assumption | (refine Below.alloc ?_ (by first | omega | (simp; omega) | (simp; done)) _) | (refine Below.setCell ?_ (by first | omega | (simp; omega) | (simp; done)) _) | (refine Below.drew ?_) | (refine belowN ?_ _) | (refine Below.trans ?_ (Below.mono ‹Below _ _ _› (by first | omega | (simp; omega) | (simp; done)))))) : Below w.heap.size w _) hb1; have gm := Blk.below (Blk.new w _ _) hb1 (by first | omega | (simp; omega) | (simp; done)); (have z0 := gm.cell 0; have z1 := gm.cell 1; have z2 := gm.cell 2; simp at z0 z1 z2; have gl := gm.lt)) | (go_at_call 57; refine (isRow_any n _).mono ?_; rintro _ W2 ⟨b0, b1, rfl, g0, g1, hk0, hk1, hb2⟩; have hw2 := bl2 hw1 hb2; have gm := gm.below hb2 gm.lt; (have z0 := gm.cell 0; have z1 := gm.cell 1; have z2 := gm.cell 2; simp at z0 z1 z2; have gl := gm.lt)) | (go_at_call 58; refine (HA.out W2 b0 b1 hw2 g0 g1).mono ?_; rintro _ W3 ⟨rfl, hb3⟩; have hw3 := bl2 hw2 (bl3 (Below.refl _ _) hb3); have gm := (gm.alloc _).below hb3 (by simp; exact Nat.lt_succ_of_lt gm.lt); (have z0 := gm.cell 0; have z1 := gm.cell 1; have z2 := gm.cell 2; simp at z0 z1 z2; have gl := gm.lt)))
                  (refine wp_region_ext (by kernel_rfl) (by kernel_rfl) ?_; (repeat (go_big_quiet_step(fail))); with_reducible refine wpQuiet_nil ?_; intro w1 hw1; have hb1 := ext_below hw1; clear hw1)
                  have hw4 := bl2 hw3 hb1
                  have gm := gm.below hb1 gm.lt
                  (have z0 := gm.cell 0; have z1 := gm.cell 1; have z2 := gm.cell 2; simp at z0 z1 z2; have gl := gm.lt)
                  have c0 := (bcell hw4).1 ab ao hblk
                  rw [hcell] at c0
                  go_wp2
                  (refine wp_region_ext (by kernel_rfl) (by kernel_rfl) ?_; (repeat (go_big_quiet_step((go_at_call 60; exact Calls.ext_same (HS.out _ (bl_ext0 hw4 _)))))); with_reducible refine wpQuiet_nil ?_; intro w1 hw1; have hb1 := ext_below hw1; clear hw1)
                  have hw5 := bl2 hw4 hb1
                  have gm := gm.below hb1 gm.lt
                  (have z0 := gm.cell 0; have z1 := gm.cell 1; have z2 := gm.cell 2; simp at z0 z1 z2; have gl := gm.lt)
                  go_wp2
                  all_goals first
                    | (exfalso; have q := HQ.out; omega)
                    | (go_ret; exact ⟨by rw [HT.out]; rfl, hw5⟩)
              · have a1 : decide (1 ≤ af) = false := by simpa using q3
                rw [HK.out, decide_eq_false (fun h => q3 h.2.1)] at HT
                have HQ := Lib.hid trivial
                clear q3
                go_enter Try.func23, Try.ntmps23
                go_wp2_with (first | (go_at_call 56; refine (HO.out _ (by (repeat (first | exact Below.refl _ _ | assumption | (refine Below.alloc ?_ (by first | omega | (simp; omega) | (simp; done)) _) | (refine Below.setCell ?_ (by first | omega | (simp; omega) | (simp; done)) _) | (refine Below.drew ?_) | (refine belowN ?_ _) | (refine Below.trans ?_ (Below.mono ‹Below _ _ _› (by first | omega | (simp; omega) | (simp; done)))))))).mono ?_; rintro _ W1 ⟨rfl, hb1⟩; have hw1 := bl2 (by (repeat (first | exact Below.refl _ _ | assumption | (refine Below.alloc ?_ (by first | omega | (simp; omega) | (simp; done)) _) | (refine Below.setCell ?_ (by first | omega | (simp; omega) | (simp; done)) _) | (refine Below.drew ?_) | (refine belowN ?_ _) | (refine Below.trans ?_ (Below.mono ‹Below _ _ _› (by first | omega | (simp; omega) | (simp; done)))))) : Below w.heap.size w _) hb1; have gm := Blk.below (Blk.new w _ _) hb1 (by first | omega | (simp; omega) | (simp; done)); (have z0 := gm.cell 0; have z1 := gm.cell 1; have z2 := gm.cell 2; simp at z0 z1 z2; have gl := gm.lt)) | (go_at_call 57; refine (isRow_any n _).mono ?_; rintro _ W2 ⟨b0, b1, rfl, g0, g1, hk0, hk1, hb2⟩; have hw2 := bl2 hw1 hb2; have gm := gm.below hb2 gm.lt; (have z0 := gm.cell 0; have z1 := gm.cell 1; have z2 := gm.cell 2; simp at z0 z1 z2; have gl := gm.lt)) | (go_at_call 58; refine (HA.out W2 b0 b1 hw2 g0 g1).mono ?_; rintro _ W3 ⟨rfl, hb3⟩; have hw3 := bl2 hw2 (bl3 (Below.refl _ _) hb3); have gm := (gm.alloc _).below hb3 (by simp; exact Nat.lt_succ_of_lt gm.lt); (have z0 := gm.cell 0; have z1 := gm.cell 1; have z2 := gm.cell 2; simp at z0 z1 z2; have gl := gm.lt)))
                (refine wp_region_ext (by kernel_rfl) (by kernel_rfl) ?_; (repeat (go_big_quiet_step(fail))); with_reducible refine wpQuiet_nil ?_; intro w1 hw1; have hb1 := ext_below hw1; clear hw1)
                have hw4 := bl2 hw3 hb1
                have gm := gm.below hb1 gm.lt
                (have z0 := gm.cell 0; have z1 := gm.cell 1; have z2 := gm.cell 2; simp at z0 z1 z2; have gl := gm.lt)
                have c0 := (bcell hw4).1 ab ao hblk
                rw [hcell] at c0
                go_wp2
                (refine wp_region_ext (by kernel_rfl) (by kernel_rfl) ?_; (repeat (go_big_quiet_step((go_at_call 60; exact Calls.ext_same (HS.out _ (bl_ext0 hw4 _)))))); with_reducible refine wpQuiet_nil ?_; intro w1 hw1; have hb1 := ext_below hw1; clear hw1)
                have hw5 := bl2 hw4 hb1
                have gm := gm.below hb1 gm.lt
                (have z0 := gm.cell 0; have z1 := gm.cell 1; have z2 := gm.cell 2; simp at z0 z1 z2; have gl := gm.lt)
                go_wp2
                all_goals first
                  | (exfalso; have q := HQ.out; omega)
                  | (go_ret; exact ⟨by rw [HT.out]; rfl, hw5⟩)
            · have HK : Hid (kindB kd rows.length n af t = false) := (by show _ = _; unfold kindB; rw [if_neg k1, if_neg k2, if_neg k3] : _)
              have e3 : (kd == 3) = false := by simpa using k3
              rw [HK.out] at HT
              clear hr hn hv ht k1 k2 k3
              go_enter Try.func23, Try.ntmps23
              go_wp2_with (first | (go_at_call 56; refine (HO.out _ (by (repeat (first | exact Below.refl _ _ | assumption | (refine Below.alloc ?_ (by first | omega | (simp; omega) | (simp; done)) _) | (refine Below.setCell ?_ (by first | omega | (simp; omega) | (simp; done)) _) | (refine Below.drew ?_) | (refine belowN ?_ _) | (refine Below.trans ?_ (Below.mono ‹Below _ _ _› (by first | omega | (simp; omega) | (simp; done)))))))).mono ?_; rintro _ W1 ⟨rfl, hb1⟩; have hw1 := bl2 (by (repeat (first | exact Below.refl _ _ | assumption | (refine Below.alloc ?_ (by first | omega | (simp; omega) | (simp; done)) _) | (refine Below.setCell ?_ (by first | omega | (simp; omega) | (simp; done)) _) | (refine Below.drew ?_) | (refine belowN ?_ _) | (refine Below.trans ?_ (Below.mono ‹Below _ _ _› (by first | omega | (simp; omega) | (simp; done)))))) : Below w.heap.size w _) hb1; have gm := Blk.below (Blk.new w _ _) hb1 (by first | omega | (simp; omega) | (simp; done)); (have z0 := gm.cell 0; have z1 := gm.cell 1; have z2 := gm.cell 2; simp at z0 z1 z2; have gl := gm.lt)) | (go_at_call 57; refine (isRow_any n _).mono ?_; rintro _ W2 ⟨b0, b1, rfl, g0, g1, hk0, hk1, hb2⟩; have hw2 := bl2 hw1 hb2; have gm := gm.below hb2 gm.lt; (have z0 := gm.cell 0; have z1 := gm.cell 1; have z2 := gm.cell 2; simp at z0 z1 z2; have gl := gm.lt)) | (go_at_call 58; refine (HA.out W2 b0 b1 hw2 g0 g1).mono ?_; rintro _ W3 ⟨rfl, hb3⟩; have hw3 := bl2 hw2 (bl3 (Below.refl _ _) hb3); have gm := (gm.alloc _).below hb3 (by simp; exact Nat.lt_succ_of_lt gm.lt); (have z0 := gm.cell 0; have z1 := gm.cell 1; have z2 := gm.cell 2; simp at z0 z1 z2; have gl := gm.lt)))
              (refine wp_region_ext (by kernel_rfl) (by kernel_rfl) ?_; (repeat (go_big_quiet_step(fail))); with_reducible refine wpQuiet_nil ?_; intro w1 hw1; have hb1 := ext_below hw1; clear hw1)
              have hw4 := bl2 hw3 hb1
              have gm := gm.below hb1 gm.lt
              (have z0 := gm.cell 0; have z1 := gm.cell 1; have z2 := gm.cell 2; simp at z0 z1 z2; have gl := gm.lt)
              go_wp2
              go_ret
              exact ⟨by rw [HT.out]; rfl, hw4⟩
end Go.Proofs.Ytiikkcifdhcejaa

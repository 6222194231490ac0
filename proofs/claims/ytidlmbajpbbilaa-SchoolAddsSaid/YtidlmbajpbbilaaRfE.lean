/- The reference: Is, Number, Region, Has. -/
import Derived.Test.YtidlmbajpbbilaaRfD
namespace Go.Proofs.Ytidlmbajpbbilaa
open Go.RowKit

set_option maxRecDepth 100000 in
set_option maxHeartbeats 2000000 in
theorem ris_any (s : Sch) (R : Value) (A : Option Addr) (c : Nat) (l : List Int) (w : World) (hs : Small s) (hl : l.length ≤ 1000000) (hr : Sl intCell 1 w w.heap.size A l) :
    Calls Try.prog 42 #[scv s R, .slice A l.length c] w fun e w' => e = .returned (.bool (chartB s l)) ∧ Below w.heap.size w w' := by
  have HR := Lib.hid hr
  obtain ⟨q1, q2, q3, q4⟩ := hs
  clear hr
  go_enter Try.func42, Try.ntmps42
  go_wp2
  refine wp_world (fun W => Below w.heap.size w W ∧ w.heap.size < W.heap.size ∧ Blk W w.heap.size #[.int .i64 s.places, .int .i64 s.signs, .int .i64 s.kinds, .int .i64 s.answers, R] 24) ⟨(Below.refl _ _).alloc (Nat.le_refl _) _, by simp, Blk.at_ rfl⟩ ?_
  rintro w0 ⟨hbw, hz0, g0⟩
  go_loopw [5] (fun i wr => ∃ j : Nat, j ≤ l.length ∧ i = .int .i64 j ∧ Below w0.heap.size w0 wr ∧ Hid (l.all (fun x => inB x 0 (s.signs - 1)) = (l.drop j).all (fun x => inB x 0 (s.signs - 1)))) (fun i _ => l.length - (intOf i).toNat)
  case atStart => exact ⟨0, by omega, rfl, Below.refl _ _, rfl⟩
  case round =>
    obtain ⟨j, hj, rfl, hb, HA⟩ := hrel
    have hsz := hb.size
    have hbr : Below w.heap.size w wr := hbw.trans (hb.mono (by omega))
    have gc := (g0.below hb (by omega)).cell
    have s0 := gc 0; have s1 := gc 1; have s2 := gc 2; have s3 := gc 3; have s4 := gc 4
    simp at s0 s1 s2 s3 s4
    have l0 : w.heap.size < wr.heap.size := by omega
    clear gc
    by_cases hlt : j < l.length
    · obtain ⟨ab, ao, rfl, hblk, hcell⟩ := (HR.out.below hbr).at_ (k := j) (fun _ => rfl) hlt
      have HD := Lib.hid (all_drop (p := fun x => inB x 0 (s.signs - 1)) hlt)
      obtain ⟨x, hx⟩ : ∃ t, l[j] = t := ⟨_, rfl⟩
      rw [hx] at hcell HD
      clear hx
      have c0 : wr.cell? ⟨ab, ao + j, none⟩ = some (.int .i64 x) := by have := hcell 0 _ rfl; simpa using this
      have hj0 : (0 : Int) ≤ (j : Int) := by omega
      have hj1 : (j : Int) < (l.length : Int) := by omega
      have hw1 : IntKind.i64.wrap (s.signs - 1) = s.signs - 1 := IntWalk.i64_in _ (by omega)
      clear hcell
      by_cases f1 : inB x 0 (s.signs - 1) = true
      · have HT : Hid (l.all (fun x => inB x 0 (s.signs - 1)) = (l.drop (j + 1)).all (fun x => inB x 0 (s.signs - 1))) := (by rw [HA.out, HD.out, f1]; rfl : l.all (fun x => inB x 0 (s.signs - 1)) = (l.drop (j + 1)).all (fun x => inB x 0 (s.signs - 1)))
        go_wp2
        (refine wp_region_ext (by kernel_rfl) (by kernel_rfl) ?_; (repeat (go_big_quiet_step((go_at_call 60; first | exact Calls.ext_same (rin_val (by assumption) _))))); with_reducible refine wpQuiet_nil ?_; intro w2 hw2; have hb1 := ext_below hw2; clear hw2)
        go_wp2
        go_roundw
        case rel => exact ⟨j + 1, by omega, by go_num, hb.trans (hb1.mono hsz), HT⟩
        case measure => simp [intOf]; omega
      · simp only [Bool.not_eq_true] at f1
        have HT : Hid (chartB s l = false) := (by unfold chartB; rw [HA.out, HD.out, f1]; simp : chartB s l = false)
        go_wp2
        (refine wp_region_ext (by kernel_rfl) (by kernel_rfl) ?_; (repeat (go_big_quiet_step((go_at_call 60; first | exact Calls.ext_same (rin_val (by assumption) _))))); with_reducible refine wpQuiet_nil ?_; intro w2 hw2; have hb1 := ext_below hw2; clear hw2)
        go_wp2
        go_ret
        exact ⟨ret_bool HT.out.symm, hbr.trans (hb1.mono hbr.size)⟩
    · have HT : Hid (chartB s l = ((l.length : Int) == s.places)) := (by unfold chartB; rw [HA.out, List.drop_eq_nil_of_le (by omega)]; rw [Bool.eq_iff_iff]; simp : chartB s l = ((l.length : Int) == s.places))
      go_wp2
      go_ret
      exact ⟨ret_bool HT.out.symm, hbr⟩

set_option maxRecDepth 100000 in
set_option maxHeartbeats 2000000 in
theorem rnumber_any (s : Sch) (R : Value) (A : Option Addr) (c : Nat) (l : List Int) (w : World) (hs : Small s) (hc : chartB s l = true) (hr : Sl intCell 1 w w.heap.size A l) :
    Calls Try.prog 43 #[scv s R, .slice A l.length c] w fun e w' => e = .returned (.int .i64 (numN s.signs l)) ∧ Below w.heap.size w w' := by
  have hlen : l.length ≤ 6 := by have := hs.2.1; simp [chartB] at hc; omega
  have hfs : ∀ j, (h : j < l.length) → 0 ≤ l[j] ∧ l[j] < s.signs := fun j h => by
    simp [chartB, inB] at hc
    have := hc.2 _ (List.getElem_mem h); omega
  have HR := Lib.hid hr
  have HFS := Lib.hid hfs
  obtain ⟨q1, q2, q3, q4⟩ := hs
  clear hr hfs hc
  go_enter Try.func43, Try.ntmps43
  go_wp2
  refine wp_world (fun W => Below w.heap.size w W ∧ w.heap.size < W.heap.size ∧ Blk W w.heap.size #[.int .i64 s.places, .int .i64 s.signs, .int .i64 s.kinds, .int .i64 s.answers, R] 24) ⟨(Below.refl _ _).alloc (Nat.le_refl _) _, by simp, Blk.at_ rfl⟩ ?_
  rintro w0 ⟨hbw, hz0, g0⟩
  go_loopw [5, 6] (fun v i wr => ∃ j : Nat, j ≤ l.length ∧ i = .int .i64 j ∧ v = .int .i64 (numN s.signs (l.take j)) ∧ 0 ≤ numN s.signs (l.take j) ∧ Hid (numN s.signs (l.take j) < 64 ^ j) ∧ Below w0.heap.size w0 wr) (fun _ i _ => l.length - (intOf i).toNat)
  case atStart => exact ⟨0, by omega, rfl, rfl, by simp [numN], (by simp [numN] : numN s.signs (l.take 0) < 64 ^ 0), Below.refl _ _⟩
  case round =>
    obtain ⟨j, hj, rfl, rfl, hn0, HN1, hb⟩ := hrel
    have hsz := hb.size
    have hbr : Below w.heap.size w wr := hbw.trans (hb.mono (by omega))
    have gc := (g0.below hb (by omega)).cell
    have s0 := gc 0; have s1 := gc 1; have s2 := gc 2; have s3 := gc 3; have s4 := gc 4
    simp at s0 s1 s2 s3 s4
    have l0 : w.heap.size < wr.heap.size := by omega
    clear gc
    obtain ⟨x, hx⟩ : ∃ x, x = numN s.signs (l.take j) := ⟨_, rfl⟩
    rw [← hx] at hn0 HN1 ⊢
    by_cases hlt : j < l.length
    · have hn1 := HN1.out
      have hpow : (64 : Int) ^ j ≤ 64 ^ 5 := by
        have h := Nat.pow_le_pow_right (n := 64) (by omega) (show j ≤ 5 by omega)
        exact_mod_cast h
      obtain ⟨hf0, hf1⟩ := HFS.out j hlt
      obtain ⟨ab, ao, rfl, hblk, hcell⟩ := (HR.out.below hbr).at_ (k := j) (fun _ => rfl) hlt
      have c0 : wr.cell? ⟨ab, ao + j, none⟩ = some (.int .i64 l[j]) := by have := hcell 0 _ rfl; simpa using this
      have hm0 : 0 ≤ x * s.signs := Int.mul_nonneg hn0 (by omega)
      have hm1 : x * s.signs ≤ x * 64 := Int.mul_le_mul_of_nonneg_left (by omega) hn0
      have hs2 : Hid (numN s.signs (l.take (j + 1)) = x * s.signs + l[j]) := by show _ = _; rw [numN_succ _ _ hlt, hx]
      have hp6 : (64 : Int) ^ (j + 1) = 64 ^ j * 64 := Int.pow_succ 64 j
      have hbd : Hid (x * s.signs + l[j] < 64 ^ (j + 1)) := Lib.hid (by omega)
      obtain ⟨f, hf⟩ : ∃ f, f = l[j] := ⟨_, rfl⟩
      rw [← hf] at c0 hf0 hf1 hs2 hbd
      simp only [Int.reducePow] at hpow
      have hx5 : x < 1073741824 := by omega
      have hm2 : x * s.signs ≤ 68719476736 := by omega
      have hj0 : (0 : Int) ≤ (j : Int) := by omega
      have hj1 : (j : Int) < (l.length : Int) := by omega
      have hw1 : IntKind.i64.wrap (x * s.signs) = x * s.signs := IntWalk.i64_in _ (by omega)
      have hw2 : IntKind.i64.wrap (x * s.signs + f) = x * s.signs + f := IntWalk.i64_in _ (by omega)
      clear hp6 hcell hx hf hpow hn1 hm1
      go_wp2
      (refine wp_region_ext (by kernel_rfl) (by kernel_rfl) ?_; (repeat (go_big_quiet_step((fail)))); with_reducible refine wpQuiet_nil ?_; intro w2 hw2; have hb1 := ext_below hw2; clear hw2)
      go_wp2
      go_roundw
      case rel => exact ⟨j + 1, by omega, by go_num, by rw [hs2.out], by rw [hs2.out]; omega, by rw [hs2.out]; exact hbd, hb.trans (hb1.mono hsz)⟩
      case measure => simp [intOf]; omega
    · obtain rfl : j = l.length := by omega
      rw [List.take_length] at hx
      subst hx
      go_wp2
      go_ret
      exact ⟨rfl, hbr⟩

set_option maxRecDepth 100000 in
set_option maxHeartbeats 2000000 in
theorem rregion_any (s : Sch) (R : Value) (A : Option Addr) (c : Nat) (l : List Int) (w : World) (hs : Small s) (hl : l.length ≤ 1000000) (ho : ∀ x ∈ l, IsU64 x) (hr : Sl setCell1 1 w w.heap.size A l) :
    Calls Try.prog 20 #[scv s R, .slice A l.length c] w fun e w' => e = .returned (.bool (regB s l)) ∧ Below w.heap.size w w' := by
  have HR := Lib.hid hr
  have HO := Lib.hid ho
  obtain ⟨q1, q2, q3, q4⟩ := hs
  clear hr ho
  go_enter Try.func20, Try.ntmps20
  go_wp2
  refine wp_world (fun W => Below w.heap.size w W ∧ w.heap.size < W.heap.size ∧ Blk W w.heap.size #[.int .i64 s.places, .int .i64 s.signs, .int .i64 s.kinds, .int .i64 s.answers, R] 24) ⟨(Below.refl _ _).alloc (Nat.le_refl _) _, by simp, Blk.at_ rfl⟩ ?_
  rintro w0 ⟨hbw, hz0, g0⟩
  go_loopw [5] (fun i wr => ∃ j : Nat, j ≤ l.length ∧ i = .int .i64 j ∧ Below w0.heap.size w0 wr ∧ Hid (l.all (fitsB s.signs) = (l.drop j).all (fitsB s.signs))) (fun i _ => l.length - (intOf i).toNat)
  case atStart => exact ⟨0, by omega, rfl, Below.refl _ _, rfl⟩
  case round =>
    obtain ⟨j, hj, rfl, hb, HA⟩ := hrel
    have hsz := hb.size
    have hbr : Below w.heap.size w wr := hbw.trans (hb.mono (by omega))
    have gc := (g0.below hb (by omega)).cell
    have s0 := gc 0; have s1 := gc 1; have s2 := gc 2; have s3 := gc 3; have s4 := gc 4
    simp at s0 s1 s2 s3 s4
    have l0 : w.heap.size < wr.heap.size := by omega
    clear gc
    by_cases hlt : j < l.length
    · obtain ⟨ab, ao, rfl, hblk, hcell⟩ := (HR.out.below hbr).at_ (k := j) (fun _ => rfl) hlt
      have HD := Lib.hid (all_drop (p := fitsB s.signs) hlt)
      have hox := HO.out _ (List.getElem_mem hlt)
      obtain ⟨x, hx⟩ : ∃ t, l[j] = t := ⟨_, rfl⟩
      rw [hx] at hcell HD hox
      clear hx
      have HSET := fun W => Lib.hid (rset_any s x R q3 q4 hox W)
      have c0 : wr.cell? ⟨ab, ao + j, none⟩ = some (.int .u64 x) := by have := hcell 0 _ rfl; simpa using this
      have hj0 : (0 : Int) ≤ (j : Int) := by omega
      have hj1 : (j : Int) < (l.length : Int) := by omega
      clear hcell hox
      by_cases f1 : fitsB s.signs x = true
      · have HT : Hid (l.all (fitsB s.signs) = (l.drop (j + 1)).all (fitsB s.signs)) := (by rw [HA.out, HD.out, f1]; rfl : l.all (fitsB s.signs) = (l.drop (j + 1)).all (fitsB s.signs))
        rw [f1] at HSET
        go_wp2
        (refine wp_region_ext (by kernel_rfl) (by kernel_rfl) ?_; (repeat (go_big_quiet_step((go_at_call 62; with_reducible exact Calls.ext_of (HSET _).out)))); with_reducible refine wpQuiet_nil ?_; intro w2 hw2; have hb1 := ext_below hw2; clear hw2)
        go_wp2
        go_roundw
        case rel => exact ⟨j + 1, by omega, by go_num, hb.trans (hb1.mono hsz), HT⟩
        case measure => simp [intOf]; omega
      · simp only [Bool.not_eq_true] at f1
        have HT : Hid (regB s l = false) := (by unfold regB; rw [HA.out, HD.out, f1]; simp : regB s l = false)
        rw [f1] at HSET
        go_wp2
        (refine wp_region_ext (by kernel_rfl) (by kernel_rfl) ?_; (repeat (go_big_quiet_step((go_at_call 62; with_reducible exact Calls.ext_of (HSET _).out)))); with_reducible refine wpQuiet_nil ?_; intro w2 hw2; have hb1 := ext_below hw2; clear hw2)
        go_wp2
        go_ret
        exact ⟨ret_bool HT.out.symm, hbr.trans (hb1.mono hbr.size)⟩
    · have HT : Hid (regB s l = ((l.length : Int) == s.places)) := (by unfold regB; rw [HA.out, List.drop_eq_nil_of_le (by omega)]; rw [Bool.eq_iff_iff]; simp : regB s l = ((l.length : Int) == s.places))
      go_wp2
      go_ret
      exact ⟨ret_bool HT.out.symm, hbr⟩

theorem hasB_drop (xs : List Int) : ∀ (fs : List Int) (k : Nat) (h : k < fs.length) (h' : k < xs.length), hasB (xs.drop k) (fs.drop k) = (bitB xs[k] fs[k] && hasB (xs.drop (k + 1)) (fs.drop (k + 1))) := fun fs k h h' => by
  rw [List.drop_eq_getElem_cons h, List.drop_eq_getElem_cons h']; rfl
set_option maxRecDepth 100000 in
set_option maxHeartbeats 2000000 in
theorem rhas_any (A A2 : Option Addr) (c c2 : Nat) (l fs : List Int) (w : World) (hl : fs.length ≤ 1000000) (hn : l.length = fs.length) (ho : ∀ x ∈ l, IsU64 x) (hf : ∀ x ∈ fs, 0 ≤ x ∧ x ≤ 63)
    (hr : Sl setCell1 1 w w.heap.size A l) (hr2 : Sl intCell 1 w w.heap.size A2 fs) :
    Calls Try.prog 63 #[.slice A l.length c, .slice A2 fs.length c2] w fun e w' => e = .returned (.bool (hasB l fs)) ∧ Below w.heap.size w w' := by
  have HO := Lib.hid ho; have HF := Lib.hid hf; have HR := Lib.hid hr; have HR2 := Lib.hid hr2; have HN := Lib.hid hn
  clear ho hf hr hr2
  have hn1 : l.length ≤ fs.length := by omega
  have hn2 : fs.length ≤ l.length := by omega
  clear hn
  go_enter Try.func63, Try.ntmps63
  go_wp2
  go_loopw [5] (fun i wr => ∃ k : Nat, k ≤ fs.length ∧ i = .int .i64 k ∧ Below w.heap.size w wr ∧ Hid (hasB l fs = hasB (l.drop k) (fs.drop k))) (fun i _ => fs.length - (intOf i).toNat)
  case atStart => exact ⟨0, by omega, rfl, Below.refl _ _, rfl⟩
  case round =>
    obtain ⟨k, hk, rfl, hb, HA⟩ := hrel
    have hsz := hb.size
    by_cases hlt : k < fs.length
    · have hlt2 : k < l.length := by omega
      have HD := Lib.hid (hasB_drop l fs k hlt hlt2)
      obtain ⟨ab, ao, rfl, hblk, hcell⟩ := (HR.out.below hb).at_ (k := k) (fun _ => rfl) hlt2
      obtain ⟨cb, co, rfl, hblk2, hcell2⟩ := (HR2.out.below hb).at_ (k := k) (fun _ => rfl) hlt
      have hxb := HO.out _ (List.getElem_mem hlt2)
      have hfb := HF.out _ (List.getElem_mem hlt)
      obtain ⟨x, hx⟩ : ∃ t, l[k] = t := ⟨_, rfl⟩
      obtain ⟨f, hf⟩ : ∃ t, fs[k] = t := ⟨_, rfl⟩
      rw [hx] at hcell hxb HD
      rw [hf] at hcell2 hfb HD
      have hbt := bit_u64 x f hxb
      unfold IsU64 at hxb
      have c0 : wr.cell? ⟨ab, ao + k, none⟩ = some (.int .u64 x) := by have := hcell 0 _ rfl; simpa using this
      have c1 : wr.cell? ⟨cb, co + k, none⟩ = some (.int .i64 f) := by have := hcell2 0 _ rfl; simpa using this
      have hj0 : (0 : Int) ≤ (k : Int) := by omega
      have hj1 : (k : Int) < (fs.length : Int) := by omega
      have hj2 : (k : Int) < (l.length : Int) := by omega
      obtain ⟨hf0, hf1⟩ := hfb
      obtain ⟨hx0, hx1⟩ := hxb
      have hw3 : IntKind.u64.wrap f = f := IntWalk.u64_in _ ⟨by omega, by omega⟩
      clear hcell hcell2 hx hf
      by_cases f1 : bitB x f = true
      · have HT : Hid (hasB l fs = hasB (l.drop (k + 1)) (fs.drop (k + 1))) := (by rw [HA.out, HD.out, f1]; rfl : hasB l fs = hasB (l.drop (k + 1)) (fs.drop (k + 1)))
        rw [f1] at hbt
        have hbt : (bits BinOp.and IntKind.u64 (x / 2 ^ f.toNat) 1 == 0) = false := hbt
        go_wp2
        (refine wp_region_ext (by kernel_rfl) (by kernel_rfl) ?_; (repeat (go_big_quiet_step((fail)))); with_reducible refine wpQuiet_nil ?_; intro w2 hw2; have hb1 := ext_below hw2; clear hw2)
        go_wp2
        go_roundw
        case rel => exact ⟨k + 1, by omega, by go_num, hb.trans (hb1.mono hsz), HT⟩
        case measure => simp [intOf]; omega
      · simp only [Bool.not_eq_true] at f1
        have HT : Hid (hasB l fs = false) := (by rw [HA.out, HD.out, f1]; rfl : hasB l fs = false)
        rw [f1] at hbt
        have hbt : (bits BinOp.and IntKind.u64 (x / 2 ^ f.toNat) 1 == 0) = true := hbt
        go_wp2
        (refine wp_region_ext (by kernel_rfl) (by kernel_rfl) ?_; (repeat (go_big_quiet_step((fail)))); with_reducible refine wpQuiet_nil ?_; intro w2 hw2; have hb1 := ext_below hw2; clear hw2)
        go_wp2
        go_ret
        exact ⟨ret_bool HT.out.symm, hb.trans (hb1.mono hsz)⟩
    · have HT : Hid (hasB l fs = true) := (by rw [HA.out, List.drop_eq_nil_of_le (by omega : fs.length ≤ k)]; cases l.drop k <;> rfl : hasB l fs = true)
      go_wp2
      go_ret
      exact ⟨ret_bool HT.out.symm, hb⟩
end Go.Proofs.Ytidlmbajpbbilaa

/- habit, references: Numbers, Tally, Longest. -/
import Derived.Test.YtiikkcifdhcejaaWt
namespace Go.Proofs.Ytiikkcifdhcejaa
open Go.RowKit

/-- the error of a register with so many outcomes -/
def rnumE (n : Int) (l : List Int) : Int := if 400 < l.length then 5 else if l.any (outB n) = true then 2 else 0
theorem rnumE_two {n : Int} {l : List Int} (h : ¬ 400 < l.length) {k : Nat} (hk : k < l.length) (h2 : outB n l[k] = true) : rnumE n l = 2 := by
  unfold rnumE
  rw [if_neg h, if_pos (List.any_eq_true.2 ⟨_, List.getElem_mem hk, h2⟩)]
theorem rnumE_ok {n : Int} {l : List Int} (h : ¬ 400 < l.length) (h2 : ∀ j, ∀ hj : j < l.length, outB n l[j] = false) : rnumE n l = 0 := by
  unfold rnumE
  rw [if_neg h, if_neg]
  rw [List.any_eq_true]
  rintro ⟨x, hx, hx2⟩
  obtain ⟨j, hj, rfl⟩ := List.getElem_of_mem hx
  rw [h2 j hj] at hx2; cases hx2
set_option maxHeartbeats 1000000 in
theorem rnum_any (A : Option Addr) (c : Nat) (l : List Int) (n : Int) (w : World) (hl : l.length ≤ 1000000) (hr : Sl intCell 1 w w.heap.size A l) :
    Calls Try.prog 33 #[.slice A l.length c, .int .i64 n] w fun e w' => e = .returned (.int .i64 (rnumE n l)) ∧ Below w.heap.size w w' := by
  have HR := Lib.hid hr
  clear hr
  by_cases hlg : 400 < l.length
  · have hd : decide ((400 : Int) < (l.length : Int)) = true := by simp; omega
    have HT : Hid (rnumE n l = 5) := (by show _ = _; unfold rnumE; rw [if_pos hlg] : _)
    go_enter Try.func33, Try.ntmps33
    go_wp2
    go_ret
    exact ⟨ret_int HT.out.symm, Below.refl _ _⟩
  have hd : decide ((400 : Int) < (l.length : Int)) = false := by simp; omega
  have HLG := Lib.hid hlg
  clear hlg
  go_enter Try.func33, Try.ntmps33
  go_wp2
  go_loop [5] (fun i => ∃ k : Nat, k ≤ l.length ∧ i = .int .i64 k ∧ Hid (∀ j, j < k → ∀ hj : j < l.length, outB n l[j] = false)) (fun i => l.length - (intOf i).toNat)
  case atStart => exact ⟨0, by omega, rfl, Lib.hid fun j h => by omega⟩
  case round =>
    obtain ⟨k, hk, rfl, HP⟩ := hrel
    by_cases hlt : k < l.length
    · obtain ⟨b, o, rfl, hb, hc⟩ := HR.out.int_at hlt
      obtain ⟨x, hx⟩ : ∃ x, x = l[k] := ⟨_, rfl⟩
      have i1 : (k : Int) < (l.length : Int) := by omega
      rw [← hx] at hc
      have HB : Hid (outB n x = outB n l[k]) := (by show _ = _; rw [hx] : _)
      clear hx
      by_cases h1 : x < 0
      · have d1 : decide (x < 0) = true := by simp; omega
        have HT : Hid (rnumE n l = 2) := (by show _ = _; exact rnumE_two HLG.out hlt (by rw [← HB.out]; unfold outB; simp; omega) : _)
        go_wp2
        go_ret
        exact ⟨ret_int HT.out.symm, Below.refl _ _⟩
      · have d1 : decide (x < 0) = false := by simp; omega
        by_cases h2 : n ≤ x
        · have d2 : decide (n ≤ x) = true := by simp; omega
          have HT : Hid (rnumE n l = 2) := (by show _ = _; exact rnumE_two HLG.out hlt (by rw [← HB.out]; unfold outB; simp; omega) : _)
          go_wp2
          go_ret
          exact ⟨ret_int HT.out.symm, Below.refl _ _⟩
        · have d2 : decide (n ≤ x) = false := by simp; omega
          have HX : Hid (outB n l[k] = false) := (by show _ = _; rw [← HB.out]; unfold outB; simp; omega : _)
          go_wp2
          go_round
          case rel => exact ⟨k + 1, by omega, by go_num, Lib.hid fun j hj hjl => by
            rcases Nat.lt_succ_iff_lt_or_eq.1 hj with h | h
            · exact HP.out j h hjl
            · subst h; exact HX.out⟩
          case measure => simp [intOf]; omega
    · obtain rfl : k = l.length := by omega
      have HT : Hid (rnumE n l = 0) := (by show _ = _; exact rnumE_ok HLG.out (fun j hj => HP.out j hj hj) : _)
      go_wp2
      go_ret
      exact ⟨ret_int HT.out.symm, Below.refl _ _⟩
/-- two lists are returned -/
def RetTwo (l : List Int) (N : Nat) (w : World) (e : Ending) (w' : World) : Prop :=
  ∃ A B, e = .returned (.tuple #[.slice (some ⟨A, 0, none⟩) N N, .slice (some ⟨B, 0, none⟩) (N * N) (N * N)]) ∧ Arr w' A (cntL l N l.length) ∧ Arr w' B (parL l N l.length) ∧ w.heap.size ≤ A ∧ w.heap.size ≤ B ∧ Below w.heap.size w w'
set_option maxRecDepth 100000 in
set_option maxHeartbeats 4000000 in
theorem rtally_any (A : Option Addr) (c : Nat) (l : List Int) (N : Nat) (w : World) (h32 : N ≤ 32) (hl : l.length ≤ 1000000) (hreg : ∀ x ∈ l, 0 ≤ x ∧ x < (N : Int)) (hr : Sl intCell 1 w w.heap.size A l) :
    Calls Try.prog 35 #[.slice A l.length c, .int .i64 (N : Int)] w (RetTwo l N w) := by
  have HR := Lib.hid hr
  have HREG := Lib.hid hreg
  have hmk := mk_ints N (by omega)
  have hNN : N * N ≤ 1024 := Nat.mul_le_mul (show N ≤ 32 by omega) (show N ≤ 32 by omega)
  have hmk2 := mk_ints (N * N) (by omega)
  rw [Int.natCast_mul] at hmk2
  have wr1 : IntKind.i64.wrap ((N : Int) * (N : Int)) = (N : Int) * (N : Int) := by
    rw [← Int.natCast_mul]
    exact IntWalk.i64_in _ ⟨by omega, by omega⟩
  clear hr hreg
  go_enter Try.func35, Try.ntmps35
  go_upto_region 1 with fail
  have hw1 : Below w.heap.size w w := Below.refl _ _
  go_cut [6, 7] (fun s4 s5 wx => ∃ u v : Nat, s4 = .slice (some ⟨u, 0, none⟩) N N ∧ s5 = .slice (some ⟨v, 0, none⟩) (N * N) (N * N) ∧ u ≠ v ∧ Hid (Arr wx u (List.replicate N 0)) ∧ Hid (Arr wx v (List.replicate (N * N) 0)) ∧ w.heap.size ≤ u ∧ w.heap.size ≤ v ∧ Below w.heap.size w wx)
  case first =>
    go_region_with (first | (simp only [hmk]) | (simp only [hmk2]) | fail)
    all_goals (
      go_wp2_with fail
      go_meet
      refine ⟨_, _, rfl, rfl, ?_, ?_, ?_, ?_, ?_, ?_⟩
      · omega
      · refine Lib.hid ?_
        unfold Arr
        rw [List.map_replicate, List.toArray_replicate]
        first | exact Blk.new _ _ _ | exact (Blk.new _ _ _).alloc _ | exact Blk.at_ (by simp)
      · refine Lib.hid ?_
        unfold Arr
        rw [List.map_replicate, List.toArray_replicate]
        first | exact Blk.new _ _ _ | exact (Blk.new _ _ _).alloc _ | exact Blk.at_ (by simp)
      · omega
      · omega
      · (repeat (first | exact Below.refl _ _ | assumption | (refine Below.alloc ?_ (by first | omega | (simp; omega) | (simp; done)) _) | (refine Below.setCell ?_ (by first | omega | (simp; omega) | (simp; done)) _) | (refine Below.drew ?_) | (refine belowN ?_ _) | (refine Below.trans ?_ (Below.mono ‹Below _ _ _› (by first | omega | (simp; omega) | (simp; done)))))))
  case rest =>
    obtain ⟨u, v, rfl, rfl, huv, HU, HV, hu, hv, hb⟩ := hcut
    rename World => W5
    obtain ⟨M, hM⟩ : ∃ M, M = N * N := ⟨_, rfl⟩
    rw [← hM] at hNN ⊢
    have HNM := Lib.hid hM
    clear hmk hmk2 wr1 hM
    go_wp2_with fail
    go_loopw [8] (fun iv wr => ∃ i : Nat, i ≤ l.length ∧ iv = .int .i64 i ∧ Hid (Arr wr u (cntL l N i)) ∧ Hid (Arr wr v (parL l N i)) ∧ Below w.heap.size w wr) (fun iv _ => l.length - (intOf iv).toNat)
    case atStart => exact ⟨0, by omega, rfl, HU, HV, hb⟩
    case round =>
      obtain ⟨i, hi, rfl, HU, HV, hb⟩ := hrel
      by_cases hlt : i < l.length
      · obtain ⟨b, f, rfl, hbb, hc⟩ := (HR.out.below hb).int_at hlt
        obtain ⟨x1, x2⟩ := HREG.out _ (List.getElem_mem hlt)
        obtain ⟨X, hX⟩ : ∃ X : Nat, l[i] = (X : Int) := ⟨l[i].toNat, by omega⟩
        have hg : l.getD i 0 = (X : Int) := by rw [← hX]; simp [hlt]
        rw [hX] at x1 x2 hc
        have ca := Arr.atD HU.out (j := X) (by rw [cntL_len]; omega)
        have fa := Blk.free HU.out X
        have cb := cnt_bd l N i X
        obtain ⟨cv, hcv⟩ : ∃ z, z = (cntL l N i).getD X 0 := ⟨_, rfl⟩
        have e1 : cntL l N (i + 1) = (cntL l N i).set X (cv + 1) := by rw [hcv]; simp only [cntL, hg, Int.toNat_natCast]
        rw [← hcv] at ca cb
        have HE1 := Lib.hid e1
        have i0 : (0 : Int) ≤ (i : Int) := by omega
        have i1 : (i : Int) < (l.length : Int) := by omega
        have i2 : (i : Int) ≤ 1000000 := by omega
        have w0 : IntKind.i64.wrap (cv + 1) = cv + 1 := IntWalk.i64_in _ ⟨by omega, by omega⟩
        have w9 : IntKind.i64.wrap ((i : Int) + 1) = ((i + 1 : Nat) : Int) := by
          rw [← Int.natCast_one, ← Int.natCast_add]
          exact IntWalk.i64_in _ ⟨by omega, by omega⟩
        obtain ⟨i9, hi9⟩ : ∃ j, j = i + 1 := ⟨_, rfl⟩
        rw [← hi9] at w9 HE1
        have HI9 := Lib.hid hi9
        clear hX hcv e1 hi9
        by_cases hz : i = 0
        · have d0 : decide ((0 : Int) < (i : Int)) = false := decide_eq_false (by omega)
          have d0n : decide (0 < i) = false := decide_eq_false (by omega)
          have HP1 : Hid (parL l N i9 = parL l N i) := (by show _ = _; rw [HI9.out]; show (if i = 0 then _ else _) = _; rw [if_pos hz] : _)
          clear hg hz
          go_wp2
          refine ⟨⟨i9, by have := HI9.out; omega, by go_num, ?_, ?_, hb.setCell (p := ⟨u, X, none⟩) hu _⟩, ?_⟩
          · rw [HE1.out]; exact Lib.hid (HU.out.put X (cv + 1))
          · rw [HP1.out]; exact Lib.hid (Blk.far HV.out ⟨u, X, none⟩ (Ne.symm huv) _)
          · have := HI9.out; simp [intOf]; omega
        · obtain ⟨k, hki⟩ : ∃ k, i = k + 1 := ⟨i - 1, by omega⟩
          have hk : k < l.length := by omega
          obtain ⟨b2, f2, he2, hbb2, hc2⟩ := (HR.out.below hb).int_at hk
          cases he2
          obtain ⟨y1, y2⟩ := HREG.out _ (List.getElem_mem hk)
          obtain ⟨Y, hY⟩ : ∃ Y : Nat, l[k] = (Y : Int) := ⟨l[k].toNat, by omega⟩
          have hgy : l.getD k 0 = (Y : Int) := by rw [← hY]; simp [hk]
          rw [hY] at y1 y2 hc2
          obtain ⟨q, hq⟩ : ∃ q, q = Y * N + X := ⟨_, rfl⟩
          have hqM : q < M := by rw [hq, HNM.out]; exact pair_lt (by omega) (by omega)
          have ca2 := Arr.atD HV.out (j := q) (by rw [parL_len, ← HNM.out]; omega)
          have fa2 := Blk.free HV.out q
          have cb2 := par_bd l N i q
          obtain ⟨pv, hpv⟩ : ∃ z, z = (parL l N i).getD q 0 := ⟨_, rfl⟩
          have e2 : parL l N i9 = (parL l N i).set q (pv + 1) := by
            rw [hpv, HI9.out]
            show (if i = 0 then _ else _) = _
            rw [if_neg (by omega), show i - 1 = k by omega, hg, hgy, show ((Y : Int) * (N : Int) + (X : Int)).toNat = q by rw [hq, ← Int.natCast_mul, ← Int.natCast_add, Int.toNat_natCast]]
          rw [← hpv] at ca2 cb2
          have HE2 := Lib.hid e2
          have w1 : IntKind.i64.wrap (pv + 1) = pv + 1 := IntWalk.i64_in _ ⟨by omega, by omega⟩
          have w2 : IntKind.i64.wrap ((Y : Int) * (N : Int)) = (Y : Int) * (N : Int) := by
            have : Y * N ≤ q := by rw [hq]; omega
            rw [← Int.natCast_mul]
            exact IntWalk.i64_in _ ⟨by omega, by omega⟩
          have w3 : IntKind.i64.wrap ((Y : Int) * (N : Int) + (X : Int)) = (q : Int) := by
            rw [hq, ← Int.natCast_mul, ← Int.natCast_add]
            exact IntWalk.i64_in _ ⟨by omega, by omega⟩
          have w4 : IntKind.i64.wrap ((i : Int) - 1) = (k : Int) := by
            rw [show (i : Int) - 1 = (k : Int) by omega]
            exact IntWalk.i64_in _ ⟨by omega, by omega⟩
          have q1 : (q : Int) < (M : Int) := by omega
          have k1 : (k : Int) < (l.length : Int) := by omega
          have d0 : decide ((0 : Int) < (i : Int)) = true := decide_eq_true (by omega)
          have d0n : decide (0 < i) = true := decide_eq_true (by omega)
          have i3 : (0 : Int) < (i : Int) := by omega
          have k0 : (0 : Int) ≤ (k : Int) := by omega
          clear hY hpv e2 hg hgy hq hz hki
          go_upto_region 7 with fail
          go_region
          all_goals (
            go_wp2
            refine ⟨⟨i9, by have := HI9.out; omega, by go_num, ?_, ?_, by (repeat (first | exact Below.refl _ _ | assumption | (refine Below.alloc ?_ (by first | omega | (simp; omega) | (simp; done)) _) | (refine Below.setCell ?_ (by first | omega | (simp; omega) | (simp; done)) _) | (refine Below.drew ?_) | (refine belowN ?_ _) | (refine Below.trans ?_ (Below.mono ‹Below _ _ _› (by first | omega | (simp; omega) | (simp; done))))))⟩, ?_⟩
            · rw [HE1.out]; exact Lib.hid ((HU.out.put X (cv + 1)).far ⟨v, q, none⟩ huv _)
            · rw [HE2.out]; exact Lib.hid (Arr.put (Blk.far HV.out ⟨u, X, none⟩ (Ne.symm huv) _) q (pv + 1))
            · have := HI9.out; simp [intOf]; omega)
      · obtain rfl : i = l.length := by omega
        go_wp2
        refine bodyPost_ret (v := .tuple #[.slice (some ⟨u, 0, none⟩) N N, .slice (some ⟨v, 0, none⟩) M M]) (by simp [results, Try.results35, go_sem]) rfl ?_
        unfold RetTwo
        refine ⟨u, v, ?_, HU.out, HV.out, hu, hv, hb⟩
        rw [HNM.out]
/-- what the document's Longest returns -/
def RetLong (l : List Int) (w : World) (e : Ending) (w' : World) : Prop :=
  ∃ s n : Nat, BestOk (fwd l) l.length s n ∧ e = .returned (.tuple #[.int .i64 s, .int .i64 n, .int .i64 (runs l l.length : Nat)]) ∧ Below w.heap.size w w'
theorem fwd_end {l : List Int} {i t : Nat} (h : t ≤ fwd l i) (h2 : i + t < l.length) (h3 : l.getD (i + t) 0 ≠ l.getD i 0) : t = fwd l i := by
  rcases Nat.lt_or_ge t (fwd l i) with h9 | h9
  · exact absurd ((fwd_ge (l := l) (i := i) (k := fwd l i)).1 (Nat.le_refl _) t h9).2 h3
  · omega
theorem fwd_end2 {l : List Int} {i t : Nat} (h : t ≤ fwd l i) (h2 : ¬ i + t < l.length) : t = fwd l i := by
  rcases Nat.lt_or_ge t (fwd l i) with h9 | h9
  · exact absurd ((fwd_ge (l := l) (i := i) (k := fwd l i)).1 (Nat.le_refl _) t h9).1 h2
  · omega
theorem fwd_more {l : List Int} {i t : Nat} (h : t ≤ fwd l i) (h2 : i + t < l.length) (h3 : l.getD (i + t) 0 = l.getD i 0) : t + 1 ≤ fwd l i := by
  rw [fwd_ge]
  intro j hj
  rcases Nat.lt_succ_iff_lt_or_eq.1 hj with h9 | h9
  · exact (fwd_ge (l := l) (i := i) (k := fwd l i)).1 (Nat.le_refl _) j (by omega)
  · subst h9; exact ⟨h2, h3⟩
theorem fwd_le {l : List Int} {i : Nat} (hi : i < l.length) : i + fwd l i ≤ l.length := by
  rcases Nat.eq_zero_or_pos (fwd l i) with h | h
  · omega
  · have := ((fwd_ge (l := l) (i := i) (k := fwd l i)).1 (Nat.le_refl _) (fwd l i - 1) (by omega)).1; omega
theorem runs_new {l : List Int} {i : Nat} (h : i = 0 ∨ l.getD (i - 1) 0 ≠ l.getD i 0) : runs l (i + 1) = runs l i + 1 := by
  have : beg l i = i := by
    rcases h with h | h
    · subst h; rfl
    · cases i with
      | zero => rfl
      | succ k => simp only [beg]; rw [if_neg (by simpa using h)]
  simp only [runs]; rw [if_pos this]
theorem runs_old {l : List Int} {i : Nat} (h : 0 < i) (h2 : l.getD (i - 1) 0 = l.getD i 0) : runs l (i + 1) = runs l i := by
  obtain ⟨k, rfl⟩ : ∃ k, i = k + 1 := ⟨i - 1, by omega⟩
  have h3 := beg_le l k
  have : beg l (k + 1) = beg l k := by simp only [beg]; rw [if_pos (by simpa using h2)]
  have e : runs l (k + 1 + 1) = runs l (k + 1) + (if beg l (k + 1) = k + 1 then 1 else 0) := rfl
  rw [e, this, if_neg (by omega)]
  rfl
set_option maxRecDepth 100000 in
set_option maxHeartbeats 4000000 in
theorem rlongest_any (A : Option Addr) (c : Nat) (l : List Int) (w : World) (hl : l.length ≤ 1000000) (hr : Sl intCell 1 w w.heap.size A l) :
    Calls Try.prog 32 #[.slice A l.length c] w (RetLong l w) := by
  have HR := Lib.hid hr
  clear hr
  go_enter Try.func32, Try.ntmps32
  go_wp2
  go_loopw [5, 6, 7, 8] (fun sv nv rv iv wr => ∃ i s n : Nat, i ≤ l.length ∧ iv = .int .i64 i ∧ sv = .int .i64 s ∧ nv = .int .i64 n ∧ rv = .int .i64 (runs l i : Nat) ∧ Hid (BestOk (fwd l) i s n) ∧ Below w.heap.size w wr) (fun _ _ _ iv _ => l.length - (intOf iv).toNat)
  case atStart => exact ⟨0, 0, 0, by omega, rfl, rfl, rfl, rfl, Lib.hid (BestOk.start _), Below.refl _ _⟩
  case round =>
    obtain ⟨i, s, n, hi, rfl, rfl, rfl, rfl, HB, hb⟩ := hrel
    by_cases hlt : i < l.length
    · have i0 : (0 : Int) ≤ (i : Int) := by omega
      have i1 : (i : Int) < (l.length : Int) := by omega
      have i2 : (i : Int) ≤ 1000000 := by omega
      have hrl := runs_le l i
      have wr1 : IntKind.i64.wrap (((runs l i : Nat) : Int) + 1) = ((runs l i : Nat) : Int) + 1 := IntWalk.i64_in _ ⟨by omega, by omega⟩
      obtain ⟨b, f, rfl, hbb, hc⟩ := (HR.out.below hb).int_at hlt
      obtain ⟨x, hx⟩ : ∃ x, x = l[i] := ⟨_, rfl⟩
      have HXC : Hid (x = l[i]) := hx
      have HXX : Hid (l.getD i 0 = x) := (by show _ = _; rw [hx]; simp [hlt] : _)
      have w9 : IntKind.i64.wrap ((i : Int) + 1) = ((i + 1 : Nat) : Int) := by
        rw [← Int.natCast_one, ← Int.natCast_add]
        exact IntWalk.i64_in _ ⟨by omega, by omega⟩
      obtain ⟨i9, hi9⟩ : ∃ j, j = i + 1 := ⟨_, rfl⟩
      rw [← hi9] at w9
      have HI9 := Lib.hid hi9
      have hFl := fwd_le hlt
      obtain ⟨F, hF⟩ : ∃ F, F = fwd l i := ⟨_, rfl⟩
      rw [← hF] at hFl
      have HF := Lib.hid hF
      have HB0 := Lib.hid hb
      clear hx hi9 hF hc hb
      go_wp2
      go_loopw [9] (fun tv wr => ∃ t : Nat, t ≤ F ∧ tv = .int .i64 t ∧ Below w.heap.size w wr) (fun tv _ => l.length - (intOf tv).toNat)
      case atStart => exact ⟨0, by omega, rfl, HB0.out⟩
      case round =>
        obtain ⟨t, ht, rfl, hb⟩ := hrel
        obtain ⟨q, hq⟩ : ∃ q, q = i + t := ⟨_, rfl⟩
        have wq : IntKind.i64.wrap ((i : Int) + (t : Int)) = (q : Int) := by
          rw [hq, ← Int.natCast_add]
          exact IntWalk.i64_in _ ⟨by omega, by omega⟩
        have HQ := Lib.hid hq
        obtain ⟨b3, f3, he3, hbb3, hc⟩ := (HR.out.below hb).int_at hlt
        cases he3
        rw [← HXC.out] at hc
        by_cases hql : q < l.length
        · obtain ⟨b2, f2, he2, hbb2, hc2⟩ := (HR.out.below hb).int_at hql
          cases he2
          have hkk : l.getD q 0 = l[q] := by simp [hql]
          obtain ⟨y, hy⟩ : ∃ y, y = l[q] := ⟨_, rfl⟩
          rw [← hy] at hc2 hkk
          have HY := Lib.hid hkk
          have dl : decide ((q : Int) < (l.length : Int)) = true := decide_eq_true (by omega)
          have q0 : (0 : Int) ≤ (q : Int) := by omega
          have q1 : (q : Int) < (l.length : Int) := by omega
          by_cases he : y = x
          · have de : (y == x) = true := by simp; exact he
            have hm : t + 1 ≤ F := by rw [HF.out]; exact fwd_more (by rw [← HF.out]; exact ht) (by rw [← hq]; exact hql) (by rw [← hq, HY.out, HXX.out, he])
            clear hq hy hkk he
            go_wp2
            (refine wp_region_ext (by kernel_rfl) (by kernel_rfl) ?_; (repeat (go_big_quiet_step((fail)))); with_reducible refine wpQuiet_nil ?_; intro w1 hw1; have hb1 := ext_below hw1; clear hw1)
            have hb := bl2 hb hb1
            clear hb1
            go_wp2
            go_roundw
            case rel => exact ⟨t + 1, hm, by go_num, hb⟩
            case measure => have := HQ.out; simp [intOf]; omega
          · have de : (y == x) = false := by simp; exact he
            have htF : t = F := by rw [HF.out]; exact fwd_end (by rw [← HF.out]; exact ht) (by rw [← hq]; exact hql) (by rw [← hq, HY.out, HXX.out]; exact he)
            have htF := htF.symm
            subst htF
            clear hq hy hkk he
            go_wp2
            (refine wp_region_ext (by kernel_rfl) (by kernel_rfl) ?_; (repeat (go_big_quiet_step((fail)))); with_reducible refine wpQuiet_nil ?_; intro w1 hw1; have hb1 := ext_below hw1; clear hw1)
            have hb := bl2 hb hb1
            clear hb1 hc hc2
            by_cases h5 : n < F
            · have hd5 : decide ((n : Int) < (F : Int)) = true := decide_eq_true (by omega)
              have hd6 : decide (n < F) = true := decide_eq_true h5
              have HST : Hid (BestOk (fwd l) i9 i F) := (by have := HB.out.step; rw [← HF.out, if_pos h5, if_pos h5] at this; rw [HI9.out]; exact Lib.hid this : _)
              clear h5
              by_cases hz : i = 0
              · have dz : ((i : Int) == 0) = true := by simp; omega
                have dz2 : (i == 0) = true := by simp; omega
                have HRN : Hid (runs l i9 = runs l i + 1) := (by show _ = _; rw [HI9.out]; exact runs_new (.inl hz) : _)
                clear hz
                go_wp2
                (refine wp_region_ext (by kernel_rfl) (by kernel_rfl) ?_; (repeat (go_big_quiet_step((fail)))); with_reducible refine wpQuiet_nil ?_; intro w1 hw1; have hb1 := ext_below hw1; clear hw1)
                have hb := bl2 hb hb1
                clear hb1
                go_wp2
                go_roundw
                case rel => exact ⟨i9, _, _, by have := HI9.out; omega, by go_num, rfl, rfl, by rw [HRN.out, Int.natCast_add]; rfl, HST, hb⟩
                case measure => have := HI9.out; simp [intOf]; omega
              · obtain ⟨k, hki⟩ : ∃ k, i = k + 1 := ⟨i - 1, by omega⟩
                have hk : k < l.length := by omega
                have dz : ((i : Int) == 0) = false := by simp; omega
                have dz2 : (i == 0) = false := by simp; omega
                obtain ⟨b2, f2, he2, hbb2, hc2⟩ := (HR.out.below hb).int_at hk
                cases he2
                have hc := ((HR.out.below hb).int_at hlt)
                obtain ⟨b3, f3, he3, hbb3, hc⟩ := hc
                cases he3
                rw [← HXC.out] at hc
                have w4 : IntKind.i64.wrap ((i : Int) - 1) = (k : Int) := by
                  rw [show (i : Int) - 1 = (k : Int) by omega]
                  exact IntWalk.i64_in _ ⟨by omega, by omega⟩
                have k0 : (0 : Int) ≤ (k : Int) := by omega
                have k1 : (k : Int) < (l.length : Int) := by omega
                have hkk : l.getD k 0 = l[k] := by simp [hk]
                obtain ⟨y, hy⟩ : ∃ y, y = l[k] := ⟨_, rfl⟩
                rw [← hy] at hc2 hkk
                by_cases hq : y = x
                · have dq : (y != x) = false := by simp; exact hq
                  have HRN : Hid (runs l i9 = runs l i) := (by show _ = _; rw [HI9.out]; exact runs_old (by omega) (by rw [show i - 1 = k by omega, hkk, HXX.out, hq]) : _)
                  clear hq hy hkk hki hz
                  go_wp2
                  (refine wp_region_ext (by kernel_rfl) (by kernel_rfl) ?_; (repeat (go_big_quiet_step((fail)))); with_reducible refine wpQuiet_nil ?_; intro w1 hw1; have hb1 := ext_below hw1; clear hw1)
                  have hb := bl2 hb hb1
                  clear hb1
                  go_wp2
                  go_roundw
                  case rel => exact ⟨i9, _, _, by have := HI9.out; omega, by go_num, rfl, rfl, by rw [HRN.out], HST, hb⟩
                  case measure => have := HI9.out; simp [intOf]; omega
                · have dq : (y != x) = true := by simp; exact hq
                  have HRN : Hid (runs l i9 = runs l i + 1) := (by show _ = _; rw [HI9.out]; exact runs_new (.inr (by rw [show i - 1 = k by omega, hkk, HXX.out]; exact hq)) : _)
                  clear hq hy hkk hki hz
                  go_wp2
                  (refine wp_region_ext (by kernel_rfl) (by kernel_rfl) ?_; (repeat (go_big_quiet_step((fail)))); with_reducible refine wpQuiet_nil ?_; intro w1 hw1; have hb1 := ext_below hw1; clear hw1)
                  have hb := bl2 hb hb1
                  clear hb1
                  go_wp2
                  go_roundw
                  case rel => exact ⟨i9, _, _, by have := HI9.out; omega, by go_num, rfl, rfl, by rw [HRN.out, Int.natCast_add]; rfl, HST, hb⟩
                  case measure => have := HI9.out; simp [intOf]; omega
            · have hd5 : decide ((n : Int) < (F : Int)) = false := decide_eq_false (by omega)
              have hd6 : decide (n < F) = false := decide_eq_false h5
              have HST : Hid (BestOk (fwd l) i9 s n) := (by have := HB.out.step; rw [← HF.out, if_neg h5, if_neg h5] at this; rw [HI9.out]; exact Lib.hid this : _)
              clear h5
              by_cases hz : i = 0
              · have dz : ((i : Int) == 0) = true := by simp; omega
                have dz2 : (i == 0) = true := by simp; omega
                have HRN : Hid (runs l i9 = runs l i + 1) := (by show _ = _; rw [HI9.out]; exact runs_new (.inl hz) : _)
                clear hz
                go_wp2
                (refine wp_region_ext (by kernel_rfl) (by kernel_rfl) ?_; (repeat (go_big_quiet_step((fail)))); with_reducible refine wpQuiet_nil ?_; intro w1 hw1; have hb1 := ext_below hw1; clear hw1)
                have hb := bl2 hb hb1
                clear hb1
                go_wp2
                go_roundw
                case rel => exact ⟨i9, _, _, by have := HI9.out; omega, by go_num, rfl, rfl, by rw [HRN.out, Int.natCast_add]; rfl, HST, hb⟩
                case measure => have := HI9.out; simp [intOf]; omega
              · obtain ⟨k, hki⟩ : ∃ k, i = k + 1 := ⟨i - 1, by omega⟩
                have hk : k < l.length := by omega
                have dz : ((i : Int) == 0) = false := by simp; omega
                have dz2 : (i == 0) = false := by simp; omega
                obtain ⟨b2, f2, he2, hbb2, hc2⟩ := (HR.out.below hb).int_at hk
                cases he2
                have hc := ((HR.out.below hb).int_at hlt)
                obtain ⟨b3, f3, he3, hbb3, hc⟩ := hc
                cases he3
                rw [← HXC.out] at hc
                have w4 : IntKind.i64.wrap ((i : Int) - 1) = (k : Int) := by
                  rw [show (i : Int) - 1 = (k : Int) by omega]
                  exact IntWalk.i64_in _ ⟨by omega, by omega⟩
                have k0 : (0 : Int) ≤ (k : Int) := by omega
                have k1 : (k : Int) < (l.length : Int) := by omega
                have hkk : l.getD k 0 = l[k] := by simp [hk]
                obtain ⟨y, hy⟩ : ∃ y, y = l[k] := ⟨_, rfl⟩
                rw [← hy] at hc2 hkk
                by_cases hq : y = x
                · have dq : (y != x) = false := by simp; exact hq
                  have HRN : Hid (runs l i9 = runs l i) := (by show _ = _; rw [HI9.out]; exact runs_old (by omega) (by rw [show i - 1 = k by omega, hkk, HXX.out, hq]) : _)
                  clear hq hy hkk hki hz
                  go_wp2
                  (refine wp_region_ext (by kernel_rfl) (by kernel_rfl) ?_; (repeat (go_big_quiet_step((fail)))); with_reducible refine wpQuiet_nil ?_; intro w1 hw1; have hb1 := ext_below hw1; clear hw1)
                  have hb := bl2 hb hb1
                  clear hb1
                  go_wp2
                  go_roundw
                  case rel => exact ⟨i9, _, _, by have := HI9.out; omega, by go_num, rfl, rfl, by rw [HRN.out], HST, hb⟩
                  case measure => have := HI9.out; simp [intOf]; omega
                · have dq : (y != x) = true := by simp; exact hq
                  have HRN : Hid (runs l i9 = runs l i + 1) := (by show _ = _; rw [HI9.out]; exact runs_new (.inr (by rw [show i - 1 = k by omega, hkk, HXX.out]; exact hq)) : _)
                  clear hq hy hkk hki hz
                  go_wp2
                  (refine wp_region_ext (by kernel_rfl) (by kernel_rfl) ?_; (repeat (go_big_quiet_step((fail)))); with_reducible refine wpQuiet_nil ?_; intro w1 hw1; have hb1 := ext_below hw1; clear hw1)
                  have hb := bl2 hb hb1
                  clear hb1
                  go_wp2
                  go_roundw
                  case rel => exact ⟨i9, _, _, by have := HI9.out; omega, by go_num, rfl, rfl, by rw [HRN.out, Int.natCast_add]; rfl, HST, hb⟩
                  case measure => have := HI9.out; simp [intOf]; omega
        · have dl : decide ((q : Int) < (l.length : Int)) = false := decide_eq_false (by omega)
          have htF : t = F := by rw [HF.out]; exact fwd_end2 (by rw [← HF.out]; exact ht) (by rw [← hq]; exact hql)
          have htF := htF.symm
          subst htF
          clear hq
          go_wp2
          (refine wp_region_ext (by kernel_rfl) (by kernel_rfl) ?_; (repeat (go_big_quiet_step((fail)))); with_reducible refine wpQuiet_nil ?_; intro w1 hw1; have hb1 := ext_below hw1; clear hw1)
          have hb := bl2 hb hb1
          clear hb1 hc
          by_cases h5 : n < F
          · have hd5 : decide ((n : Int) < (F : Int)) = true := decide_eq_true (by omega)
            have hd6 : decide (n < F) = true := decide_eq_true h5
            have HST : Hid (BestOk (fwd l) i9 i F) := (by have := HB.out.step; rw [← HF.out, if_pos h5, if_pos h5] at this; rw [HI9.out]; exact Lib.hid this : _)
            clear h5
            by_cases hz : i = 0
            · have dz : ((i : Int) == 0) = true := by simp; omega
              have dz2 : (i == 0) = true := by simp; omega
              have HRN : Hid (runs l i9 = runs l i + 1) := (by show _ = _; rw [HI9.out]; exact runs_new (.inl hz) : _)
              clear hz
              go_wp2
              (refine wp_region_ext (by kernel_rfl) (by kernel_rfl) ?_; (repeat (go_big_quiet_step((fail)))); with_reducible refine wpQuiet_nil ?_; intro w1 hw1; have hb1 := ext_below hw1; clear hw1)
              have hb := bl2 hb hb1
              clear hb1
              go_wp2
              go_roundw
              case rel => exact ⟨i9, _, _, by have := HI9.out; omega, by go_num, rfl, rfl, by rw [HRN.out, Int.natCast_add]; rfl, HST, hb⟩
              case measure => have := HI9.out; simp [intOf]; omega
            · obtain ⟨k, hki⟩ : ∃ k, i = k + 1 := ⟨i - 1, by omega⟩
              have hk : k < l.length := by omega
              have dz : ((i : Int) == 0) = false := by simp; omega
              have dz2 : (i == 0) = false := by simp; omega
              obtain ⟨b2, f2, he2, hbb2, hc2⟩ := (HR.out.below hb).int_at hk
              cases he2
              have hc := ((HR.out.below hb).int_at hlt)
              obtain ⟨b3, f3, he3, hbb3, hc⟩ := hc
              cases he3
              rw [← HXC.out] at hc
              have w4 : IntKind.i64.wrap ((i : Int) - 1) = (k : Int) := by
                rw [show (i : Int) - 1 = (k : Int) by omega]
                exact IntWalk.i64_in _ ⟨by omega, by omega⟩
              have k0 : (0 : Int) ≤ (k : Int) := by omega
              have k1 : (k : Int) < (l.length : Int) := by omega
              have hkk : l.getD k 0 = l[k] := by simp [hk]
              obtain ⟨y, hy⟩ : ∃ y, y = l[k] := ⟨_, rfl⟩
              rw [← hy] at hc2 hkk
              by_cases hq : y = x
              · have dq : (y != x) = false := by simp; exact hq
                have HRN : Hid (runs l i9 = runs l i) := (by show _ = _; rw [HI9.out]; exact runs_old (by omega) (by rw [show i - 1 = k by omega, hkk, HXX.out, hq]) : _)
                clear hq hy hkk hki hz
                go_wp2
                (refine wp_region_ext (by kernel_rfl) (by kernel_rfl) ?_; (repeat (go_big_quiet_step((fail)))); with_reducible refine wpQuiet_nil ?_; intro w1 hw1; have hb1 := ext_below hw1; clear hw1)
                have hb := bl2 hb hb1
                clear hb1
                go_wp2
                go_roundw
                case rel => exact ⟨i9, _, _, by have := HI9.out; omega, by go_num, rfl, rfl, by rw [HRN.out], HST, hb⟩
                case measure => have := HI9.out; simp [intOf]; omega
              · have dq : (y != x) = true := by simp; exact hq
                have HRN : Hid (runs l i9 = runs l i + 1) := (by show _ = _; rw [HI9.out]; exact runs_new (.inr (by rw [show i - 1 = k by omega, hkk, HXX.out]; exact hq)) : _)
                clear hq hy hkk hki hz
                go_wp2
                (refine wp_region_ext (by kernel_rfl) (by kernel_rfl) ?_; (repeat (go_big_quiet_step((fail)))); with_reducible refine wpQuiet_nil ?_; intro w1 hw1; have hb1 := ext_below hw1; clear hw1)
                have hb := bl2 hb hb1
                clear hb1
                go_wp2
                go_roundw
                case rel => exact ⟨i9, _, _, by have := HI9.out; omega, by go_num, rfl, rfl, by rw [HRN.out, Int.natCast_add]; rfl, HST, hb⟩
                case measure => have := HI9.out; simp [intOf]; omega
          · have hd5 : decide ((n : Int) < (F : Int)) = false := decide_eq_false (by omega)
            have hd6 : decide (n < F) = false := decide_eq_false h5
            have HST : Hid (BestOk (fwd l) i9 s n) := (by have := HB.out.step; rw [← HF.out, if_neg h5, if_neg h5] at this; rw [HI9.out]; exact Lib.hid this : _)
            clear h5
            by_cases hz : i = 0
            · have dz : ((i : Int) == 0) = true := by simp; omega
              have dz2 : (i == 0) = true := by simp; omega
              have HRN : Hid (runs l i9 = runs l i + 1) := (by show _ = _; rw [HI9.out]; exact runs_new (.inl hz) : _)
              clear hz
              go_wp2
              (refine wp_region_ext (by kernel_rfl) (by kernel_rfl) ?_; (repeat (go_big_quiet_step((fail)))); with_reducible refine wpQuiet_nil ?_; intro w1 hw1; have hb1 := ext_below hw1; clear hw1)
              have hb := bl2 hb hb1
              clear hb1
              go_wp2
              go_roundw
              case rel => exact ⟨i9, _, _, by have := HI9.out; omega, by go_num, rfl, rfl, by rw [HRN.out, Int.natCast_add]; rfl, HST, hb⟩
              case measure => have := HI9.out; simp [intOf]; omega
            · obtain ⟨k, hki⟩ : ∃ k, i = k + 1 := ⟨i - 1, by omega⟩
              have hk : k < l.length := by omega
              have dz : ((i : Int) == 0) = false := by simp; omega
              have dz2 : (i == 0) = false := by simp; omega
              obtain ⟨b2, f2, he2, hbb2, hc2⟩ := (HR.out.below hb).int_at hk
              cases he2
              have hc := ((HR.out.below hb).int_at hlt)
              obtain ⟨b3, f3, he3, hbb3, hc⟩ := hc
              cases he3
              rw [← HXC.out] at hc
              have w4 : IntKind.i64.wrap ((i : Int) - 1) = (k : Int) := by
                rw [show (i : Int) - 1 = (k : Int) by omega]
                exact IntWalk.i64_in _ ⟨by omega, by omega⟩
              have k0 : (0 : Int) ≤ (k : Int) := by omega
              have k1 : (k : Int) < (l.length : Int) := by omega
              have hkk : l.getD k 0 = l[k] := by simp [hk]
              obtain ⟨y, hy⟩ : ∃ y, y = l[k] := ⟨_, rfl⟩
              rw [← hy] at hc2 hkk
              by_cases hq : y = x
              · have dq : (y != x) = false := by simp; exact hq
                have HRN : Hid (runs l i9 = runs l i) := (by show _ = _; rw [HI9.out]; exact runs_old (by omega) (by rw [show i - 1 = k by omega, hkk, HXX.out, hq]) : _)
                clear hq hy hkk hki hz
                go_wp2
                (refine wp_region_ext (by kernel_rfl) (by kernel_rfl) ?_; (repeat (go_big_quiet_step((fail)))); with_reducible refine wpQuiet_nil ?_; intro w1 hw1; have hb1 := ext_below hw1; clear hw1)
                have hb := bl2 hb hb1
                clear hb1
                go_wp2
                go_roundw
                case rel => exact ⟨i9, _, _, by have := HI9.out; omega, by go_num, rfl, rfl, by rw [HRN.out], HST, hb⟩
                case measure => have := HI9.out; simp [intOf]; omega
              · have dq : (y != x) = true := by simp; exact hq
                have HRN : Hid (runs l i9 = runs l i + 1) := (by show _ = _; rw [HI9.out]; exact runs_new (.inr (by rw [show i - 1 = k by omega, hkk, HXX.out]; exact hq)) : _)
                clear hq hy hkk hki hz
                go_wp2
                (refine wp_region_ext (by kernel_rfl) (by kernel_rfl) ?_; (repeat (go_big_quiet_step((fail)))); with_reducible refine wpQuiet_nil ?_; intro w1 hw1; have hb1 := ext_below hw1; clear hw1)
                have hb := bl2 hb hb1
                clear hb1
                go_wp2
                go_roundw
                case rel => exact ⟨i9, _, _, by have := HI9.out; omega, by go_num, rfl, rfl, by rw [HRN.out, Int.natCast_add]; rfl, HST, hb⟩
                case measure => have := HI9.out; simp [intOf]; omega
    · obtain rfl : i = l.length := by omega
      go_wp2
      refine bodyPost_ret (v := .tuple #[.int .i64 s, .int .i64 n, .int .i64 (runs l l.length : Nat)]) (by simp [results, Try.results32, go_sem]) rfl ?_
      exact ⟨s, n, HB.out, rfl, hb⟩
end Go.Proofs.Ytiikkcifdhcejaa

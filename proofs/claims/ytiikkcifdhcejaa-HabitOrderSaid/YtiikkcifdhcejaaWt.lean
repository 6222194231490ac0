/- habit: Tally, Longest. -/
import Derived.Test.YtiikkcifdhcejaaWs
import Derived.Test.YtiikkcifdhcejaaZ03Pd
namespace Go.Proofs.Ytiikkcifdhcejaa
open Go.RowKit

theorem madeInts (n : Nat) : madeCells (Value.int .i64 0).cells (n * 1) = ((List.replicate n (0 : Int)).map (Value.int .i64)).toArray := by
  apply Array.ext'
  rw [toList_madeCells_one' _ _ rfl, List.map_replicate]
theorem mk_ints (n : Nat) (hn : n ≤ 1000000) (W : World) : (Instr.makeSlice 30 (.int .i64 (n : Int)) (.int .i64 (n : Int))).run Try.prog W = .ok (.slice (some ⟨W.heap.size, 0, none⟩) n n) (W.alloc (.cells ((List.replicate n (0 : Int)).map (Value.int .i64)).toArray 3)) := by
  obtain ⟨i0, hi, iz0, iz1, iz2⟩ := info_parts infoInt
  have := run_makeSlice (w := W) (P := Try.prog) 30 3 i0 (.int .i64 0) uInts hi iz0 .i64 .i64 (n : Int) (n : Int) (by omega) (Int.le_refl _) (by rw [iz1, Int.toNat_natCast]; omega) (by rw [iz2]; omega) (by omega)
  rw [this, Int.toNat_natCast, iz1, madeInts]
def newB2 (V : World) (l : List Int) (n : Nat) (q : Value) (W : World) : Prop := ∃ b, q = .slice (some ⟨b, 0, none⟩) n n ∧ Arr W b l ∧ V.heap.size ≤ b
theorem newB2_stays {V : World} {l : List Int} {n : Nat} : Stays (newB2 V l n) := fun _ _ _ ⟨b, h1, h2, h3⟩ hb => ⟨b, h1, h2.below hb h2.lt_, h3⟩
theorem Arr.atD {W : World} {b : Nat} {l : List Int} (h : Arr W b l) {j : Nat} (hj : j < l.length) : W.cell? ⟨b, j, none⟩ = some (.int .i64 (l.getD j 0)) := by
  rw [h.at_ hj, List.getD_eq_getElem?_getD, List.getElem?_eq_getElem hj]; rfl
theorem set_bd {l : List Int} {i : Nat} (h : ∀ j, 0 ≤ l.getD j 0 ∧ l.getD j 0 ≤ (i : Int)) (k : Nat) : ∀ j, 0 ≤ (l.set k (l.getD k 0 + 1)).getD j 0 ∧ (l.set k (l.getD k 0 + 1)).getD j 0 ≤ ((i + 1 : Nat) : Int) := by
  intro j
  have hk := h k
  have hj := h j
  have e0 : (l.set k (l.getD k 0 + 1)).getD j 0 = ((l.set k (l.getD k 0 + 1))[j]?).getD 0 := List.getD_eq_getElem?_getD
  rw [e0, List.getElem?_set]
  by_cases e : k = j
  · rw [if_pos e]
    split
    · rw [Option.getD_some]; omega
    · rw [Option.getD_none]; omega
  · rw [if_neg e, ← List.getD_eq_getElem?_getD]; omega
theorem rep_bd (n : Nat) : ∀ j, 0 ≤ (List.replicate n (0 : Int)).getD j 0 ∧ (List.replicate n (0 : Int)).getD j 0 ≤ ((0 : Nat) : Int) := fun j => by
  rw [List.getD_eq_getElem?_getD, List.getElem?_replicate]
  split <;> simp
theorem cnt_bd (l : List Int) (n : Nat) : ∀ i j, 0 ≤ (cntL l n i).getD j 0 ∧ (cntL l n i).getD j 0 ≤ (i : Int)
  | 0 => rep_bd n
  | i + 1 => set_bd (cnt_bd l n i) _
theorem par_bd (l : List Int) (n : Nat) : ∀ i j, 0 ≤ (parL l n i).getD j 0 ∧ (parL l n i).getD j 0 ≤ (i : Int)
  | 0 => rep_bd _
  | i + 1 => fun j => by
    simp only [parL]
    split
    · have := par_bd l n i j; omega
    · exact set_bd (par_bd l n i) _ j
theorem pair_lt {Y X N : Nat} (h1 : Y < N) (h2 : X < N) : Y * N + X < N * N := by
  have h3 : (Y + 1) * N ≤ N * N := Nat.mul_le_mul_right N h1
  rw [Nat.add_mul, Nat.one_mul] at h3
  omega
/-- the error of Tally -/
def tallyE (l : List Int) (n : Int) : Int := if n < 1 ∨ 32 < n then 3 else inE n l
/-- two lists and an error are returned -/
def RetTally (l : List Int) (n : Int) (w : World) (e : Ending) (w' : World) : Prop :=
  if tallyE l n = 0 then ∃ A B, e = .returned (.tuple #[.slice (some ⟨A, 0, none⟩) n.toNat n.toNat, .slice (some ⟨B, 0, none⟩) (n.toNat * n.toNat) (n.toNat * n.toNat), .int .i64 0]) ∧ Arr w' A (cntL l n.toNat l.length) ∧ Arr w' B (parL l n.toNat l.length) ∧ w.heap.size ≤ A ∧ w.heap.size ≤ B ∧ Below w.heap.size w w'
  else e = .returned (.tuple #[.slice none 0 0, .slice none 0 0, .int .i64 (tallyE l n)]) ∧ Below w.heap.size w w'
set_option maxRecDepth 100000 in
set_option maxHeartbeats 4000000 in
theorem tallyF_any (A : Option Addr) (c : Nat) (l : List Int) (n : Int) (w : World) (hl : l.length ≤ 1000000) (hr : Sl intCell 1 w w.heap.size A l) :
    Calls Try.prog 25 #[.slice A l.length c, .int .i64 n] w (RetTally l n w) := by
  have HW := Lib.hid (fun W (hW : Below w.heap.size w W) => within_any A c l n W hl ((hr.below hW).more hW.size))
  have HR := Lib.hid hr
  clear hr
  by_cases hlo : n < 1
  · have HE : Hid (tallyE l n = 3) := (by show _ = _; unfold tallyE; rw [if_pos (.inl hlo)] : _)
    have hQ : decide (n < 1) = true := by simp; omega
    go_enter Try.func25, Try.ntmps25
    go_wp2
    refine bodyPost_ret (v := .tuple #[.slice none 0 0, .slice none 0 0, .int .i64 3]) (by simp [results, Try.results25, go_sem]) rfl ?_
    unfold RetTally
    rw [HE.out, if_neg (by decide)]
    exact ⟨rfl, by (repeat (first | exact Below.refl _ _ | assumption | (refine Below.alloc ?_ (by first | omega | (simp; omega) | (simp; done)) _) | (refine Below.setCell ?_ (by first | omega | (simp; omega) | (simp; done)) _) | (refine Below.drew ?_) | (refine belowN ?_ _) | (refine Below.trans ?_ (Below.mono ‹Below _ _ _› (by first | omega | (simp; omega) | (simp; done))))))⟩
  have hQ : decide (n < 1) = false := by simp; omega
  by_cases hhi : 32 < n
  · have HE : Hid (tallyE l n = 3) := (by show _ = _; unfold tallyE; rw [if_pos (.inr hhi)] : _)
    have hQ2 : decide (32 < n) = true := by simp; omega
    go_enter Try.func25, Try.ntmps25
    go_wp2
    refine bodyPost_ret (v := .tuple #[.slice none 0 0, .slice none 0 0, .int .i64 3]) (by simp [results, Try.results25, go_sem]) rfl ?_
    unfold RetTally
    rw [HE.out, if_neg (by decide)]
    exact ⟨rfl, by (repeat (first | exact Below.refl _ _ | assumption | (refine Below.alloc ?_ (by first | omega | (simp; omega) | (simp; done)) _) | (refine Below.setCell ?_ (by first | omega | (simp; omega) | (simp; done)) _) | (refine Below.drew ?_) | (refine belowN ?_ _) | (refine Below.trans ?_ (Below.mono ‹Below _ _ _› (by first | omega | (simp; omega) | (simp; done))))))⟩
  have hQ2 : decide (32 < n) = false := by simp; omega
  obtain ⟨N, rfl⟩ : ∃ N : Nat, n = (N : Int) := ⟨n.toNat, by omega⟩
  obtain ⟨er, her⟩ : ∃ e, e = inE (N : Int) l := ⟨_, rfl⟩
  rw [← her] at HW
  have HT : Hid (tallyE l (N : Int) = er) := (by show _ = _; unfold tallyE; rw [if_neg (by omega)]; exact her.symm : _)
  by_cases h0 : er = 0
  · subst h0
    have hz := inE_zero her.symm
    have hreg := hz.2 (by omega)
    have hmk := mk_ints N (by omega)
    have hNN : N * N ≤ 1024 := Nat.mul_le_mul (show N ≤ 32 by omega) (show N ≤ 32 by omega)
    have hmk2 := mk_ints (N * N) (by omega)
    rw [Int.natCast_mul] at hmk2
    have wr1 : IntKind.i64.wrap ((N : Int) * (N : Int)) = (N : Int) * (N : Int) := by
      rw [← Int.natCast_mul]
      exact IntWalk.i64_in _ ⟨by omega, by omega⟩
    have HREG := Lib.hid hreg
    clear her hz hreg
    go_enter Try.func25, Try.ntmps25
    go_upto_region 6 with (first | (go_at_call 62; refine (HW.out _ (by (repeat (first | exact Below.refl _ _ | assumption | (refine Below.alloc ?_ (by first | omega | (simp; omega) | (simp; done)) _) | (refine Below.setCell ?_ (by first | omega | (simp; omega) | (simp; done)) _) | (refine Below.drew ?_) | (refine belowN ?_ _) | (refine Below.trans ?_ (Below.mono ‹Below _ _ _› (by first | omega | (simp; omega) | (simp; done)))))))).mono ?_; rintro _ w1 ⟨rfl, hb1⟩) | fail)
    have hw1 : Below w.heap.size w w1 := by (repeat (first | exact Below.refl _ _ | assumption | (refine Below.alloc ?_ (by first | omega | (simp; omega) | (simp; done)) _) | (refine Below.setCell ?_ (by first | omega | (simp; omega) | (simp; done)) _) | (refine Below.drew ?_) | (refine belowN ?_ _) | (refine Below.trans ?_ (Below.mono ‹Below _ _ _› (by first | omega | (simp; omega) | (simp; done))))))
    clear hb1
    go_cut [4, 5] (fun s4 s5 wx => ∃ u v : Nat, s4 = .slice (some ⟨u, 0, none⟩) N N ∧ s5 = .slice (some ⟨v, 0, none⟩) (N * N) (N * N) ∧ u ≠ v ∧ Hid (Arr wx u (List.replicate N 0)) ∧ Hid (Arr wx v (List.replicate (N * N) 0)) ∧ w.heap.size ≤ u ∧ w.heap.size ≤ v ∧ Below w.heap.size w wx)
    case first =>
      go_region_with (first | (simp only [hmk]) | (simp only [hmk2]) | fail)
      all_goals (
        go_wp2_with fail
        go_meet
        have hz1 := hw1.size
        refine ⟨_, _, rfl, rfl, ?_, ?_, ?_, ?_, ?_, ?_⟩
        · omega
        · refine Lib.hid ?_
          unfold Arr
          rw [List.map_replicate, List.toArray_replicate]
          first | exact Blk.new _ _ _ | exact (Blk.new _ _ _).alloc _ | exact Blk.at_ (by simp)
        · refine Lib.hid ?_
          unfold Arr
          rw [List.map_replicate, List.toArray_replicate]
          first | exact Blk.new _ _ _ | exact (Blk.new _ _ _).alloc _ | exact Blk.at_ (by simp)
        · omega
        · omega
        · (repeat (first | exact Below.refl _ _ | assumption | (refine Below.alloc ?_ (by first | omega | (simp; omega) | (simp; done)) _) | (refine Below.setCell ?_ (by first | omega | (simp; omega) | (simp; done)) _) | (refine Below.drew ?_) | (refine belowN ?_ _) | (refine Below.trans ?_ (Below.mono ‹Below _ _ _› (by first | omega | (simp; omega) | (simp; done)))))))
    case rest =>
      obtain ⟨u, v, rfl, rfl, huv, HU, HV, hu, hv, hb⟩ := hcut
      rename World => W5
      obtain ⟨M, hM⟩ : ∃ M, M = N * N := ⟨_, rfl⟩
      rw [← hM] at hNN ⊢
      have HNM := Lib.hid hM
      clear hmk hmk2 wr1 hM
      go_wp2_with fail
      go_loopw [30] (fun iv wr => ∃ i : Nat, i ≤ l.length ∧ iv = .int .i64 i ∧ Hid (Arr wr u (cntL l N i)) ∧ Hid (Arr wr v (parL l N i)) ∧ Below w.heap.size w wr) (fun iv _ => l.length - (intOf iv).toNat)
      case atStart => exact ⟨0, by omega, rfl, HU, HV, hb⟩
      case round =>
        obtain ⟨i, hi, rfl, HU, HV, hb⟩ := hrel
        by_cases hlt : i < l.length
        · obtain ⟨b, f, rfl, hbb, hc⟩ := (HR.out.below hb).int_at hlt
          obtain ⟨x1, x2⟩ := HREG.out _ (List.getElem_mem hlt)
          obtain ⟨X, hX⟩ : ∃ X : Nat, l[i] = (X : Int) := ⟨l[i].toNat, by omega⟩
          have hg : l.getD i 0 = (X : Int) := by rw [← hX]; simp [hlt]
          rw [hX] at x1 x2 hc
          have ca := Arr.atD HU.out (j := X) (by rw [cntL_len]; omega)
          have fa := Blk.free HU.out X
          have cb := cnt_bd l N i X
          obtain ⟨cv, hcv⟩ : ∃ z, z = (cntL l N i).getD X 0 := ⟨_, rfl⟩
          have e1 : cntL l N (i + 1) = (cntL l N i).set X (cv + 1) := by rw [hcv]; simp only [cntL, hg, Int.toNat_natCast]
          rw [← hcv] at ca cb
          have HE1 := Lib.hid e1
          have i0 : (0 : Int) ≤ (i : Int) := by omega
          have i1 : (i : Int) < (l.length : Int) := by omega
          have i2 : (i : Int) ≤ 1000000 := by omega
          have w0 : IntKind.i64.wrap (cv + 1) = cv + 1 := IntWalk.i64_in _ ⟨by omega, by omega⟩
          clear hX hcv e1
          by_cases hz : i = 0
          · subst hz
            clear hg
            rw [Nat.add_zero] at hc
            go_wp2
            refine ⟨⟨1, by omega, by go_num, ?_, ?_, hb.setCell (p := ⟨u, X, none⟩) hu _⟩, ?_⟩
            · rw [HE1.out]; exact Lib.hid (HU.out.put X (cv + 1))
            · exact Lib.hid (Blk.far HV.out ⟨u, X, none⟩ (Ne.symm huv) _)
            · simp [intOf]; omega
          · obtain ⟨k, hki⟩ : ∃ k, i = k + 1 := ⟨i - 1, by omega⟩
            have hk : k < l.length := by omega
            obtain ⟨b2, f2, he2, hbb2, hc2⟩ := (HR.out.below hb).int_at hk
            cases he2
            obtain ⟨y1, y2⟩ := HREG.out _ (List.getElem_mem hk)
            obtain ⟨Y, hY⟩ : ∃ Y : Nat, l[k] = (Y : Int) := ⟨l[k].toNat, by omega⟩
            have hgy : l.getD k 0 = (Y : Int) := by rw [← hY]; simp [hk]
            rw [hY] at y1 y2 hc2
            obtain ⟨q, hq⟩ : ∃ q, q = Y * N + X := ⟨_, rfl⟩
            have hqM : q < M := by rw [hq, HNM.out]; exact pair_lt (by omega) (by omega)
            have ca2 := Arr.atD HV.out (j := q) (by rw [parL_len, ← HNM.out]; omega)
            have fa2 := Blk.free HV.out q
            have cb2 := par_bd l N i q
            obtain ⟨pv, hpv⟩ : ∃ z, z = (parL l N i).getD q 0 := ⟨_, rfl⟩
            have e2 : parL l N (i + 1) = (parL l N i).set q (pv + 1) := by
              rw [hpv]
              show (if i = 0 then _ else _) = _
              rw [if_neg (by omega), show i - 1 = k by omega, hg, hgy, show ((Y : Int) * (N : Int) + (X : Int)).toNat = q by rw [hq, ← Int.natCast_mul, ← Int.natCast_add, Int.toNat_natCast]]
            rw [← hpv] at ca2 cb2
            have HE2 := Lib.hid e2
            have w1 : IntKind.i64.wrap (pv + 1) = pv + 1 := IntWalk.i64_in _ ⟨by omega, by omega⟩
            have w2 : IntKind.i64.wrap ((Y : Int) * (N : Int)) = (Y : Int) * (N : Int) := by
              have : Y * N ≤ q := by rw [hq]; omega
              rw [← Int.natCast_mul]
              exact IntWalk.i64_in _ ⟨by omega, by omega⟩
            have w3 : IntKind.i64.wrap ((Y : Int) * (N : Int) + (X : Int)) = (q : Int) := by
              rw [hq, ← Int.natCast_mul, ← Int.natCast_add]
              exact IntWalk.i64_in _ ⟨by omega, by omega⟩
            have w4 : IntKind.i64.wrap ((i : Int) - 1) = (k : Int) := by
              rw [show (i : Int) - 1 = (k : Int) by omega]
              exact IntWalk.i64_in _ ⟨by omega, by omega⟩
            have q1 : (q : Int) < (M : Int) := by omega
            have k1 : (k : Int) < (l.length : Int) := by omega
            have i3 : (0 : Int) < (i : Int) := by omega
            have k0 : (0 : Int) ≤ (k : Int) := by omega
            clear hY hpv e2 hg hgy hq hbb2 hz hki
            go_wp2
            refine ⟨⟨i + 1, by omega, by go_num, ?_, ?_, (hb.setCell (p := ⟨u, X, none⟩) hu _).setCell (p := ⟨v, q, none⟩) hv _⟩, ?_⟩
            · rw [HE1.out]; exact Lib.hid ((HU.out.put X (cv + 1)).far ⟨v, q, none⟩ huv _)
            · rw [HE2.out]; exact Lib.hid (Arr.put (Blk.far HV.out ⟨u, X, none⟩ (Ne.symm huv) _) q (pv + 1))
            · simp [intOf]; omega
        · obtain rfl : i = l.length := by omega
          go_wp2
          refine bodyPost_ret (v := .tuple #[.slice (some ⟨u, 0, none⟩) N N, .slice (some ⟨v, 0, none⟩) M M, .int .i64 0]) (by simp [results, Try.results25, go_sem]) rfl ?_
          unfold RetTally
          rw [HT.out, if_pos rfl]
          refine ⟨u, v, ?_, ?_, ?_, hu, hv, hb⟩
          · rw [Int.toNat_natCast, HNM.out]
          · rw [Int.toNat_natCast]; exact HU.out
          · rw [Int.toNat_natCast]; exact HV.out
  · have hQ0 : (er != 0) = true := by simp; exact h0
    clear her
    go_enter Try.func25, Try.ntmps25
    go_wp2_with (first | (go_at_call 62; refine (HW.out _ (by (repeat (first | exact Below.refl _ _ | assumption | (refine Below.alloc ?_ (by first | omega | (simp; omega) | (simp; done)) _) | (refine Below.setCell ?_ (by first | omega | (simp; omega) | (simp; done)) _) | (refine Below.drew ?_) | (refine belowN ?_ _) | (refine Below.trans ?_ (Below.mono ‹Below _ _ _› (by first | omega | (simp; omega) | (simp; done)))))))).mono ?_; rintro _ w1 ⟨rfl, hb1⟩) | fail)
    refine bodyPost_ret (v := .tuple #[.slice none 0 0, .slice none 0 0, .int .i64 er]) (by simp [results, Try.results25, go_sem]) rfl ?_
    unfold RetTally
    rw [HT.out, if_neg h0]
    exact ⟨rfl, hb1⟩

/-- the run that place i stands in is so long by then -/
def runN (l : List Int) (i : Nat) : Nat := i + 1 - beg l i
/-- how many runs begin among the first i -/
def runs (l : List Int) : Nat → Nat
  | 0 => 0
  | i + 1 => runs l i + (if beg l i = i then 1 else 0)
theorem runs_le (l : List Int) : ∀ i, runs l i ≤ i
  | 0 => Nat.le_refl _
  | i + 1 => by have := runs_le l i; simp only [runs]; split <;> omega
/-- what Longest returns -/
def RetLongest (l : List Int) (w : World) (e : Ending) (w' : World) : Prop :=
  if 400 < l.length then e = .returned (.tuple #[.int .i64 0, .int .i64 0, .int .i64 0, .int .i64 5]) ∧ Below w.heap.size w w'
  else ∃ s n : Nat, (∃ p, BestOk (runN l) l.length p n ∧ (n = 0 → s = 0) ∧ (0 < n → s = beg l p)) ∧ e = .returned (.tuple #[.int .i64 s, .int .i64 n, .int .i64 (runs l l.length), .int .i64 0]) ∧ Below w.heap.size w w'
set_option maxRecDepth 100000 in
set_option maxHeartbeats 4000000 in
theorem longestF_any (A : Option Addr) (c : Nat) (l : List Int) (w : World) (hl : l.length ≤ 1000000) (hr : Sl intCell 1 w w.heap.size A l) :
    Calls Try.prog 30 #[.slice A l.length c] w (RetLongest l w) := by
  have HR := Lib.hid hr
  clear hr
  go_enter Try.func30, Try.ntmps30
  by_cases hlg : 400 < l.length
  · have hd : decide ((400 : Int) < (l.length : Int)) = true := by simp; omega
    go_wp2
    refine bodyPost_ret (v := .tuple #[.int .i64 0, .int .i64 0, .int .i64 0, .int .i64 5]) (by simp [results, Try.results30, go_sem]) rfl ?_
    unfold RetLongest
    rw [if_pos hlg]
    exact ⟨rfl, by (repeat (first | exact Below.refl _ _ | assumption | (refine Below.alloc ?_ (by first | omega | (simp; omega) | (simp; done)) _) | (refine Below.setCell ?_ (by first | omega | (simp; omega) | (simp; done)) _) | (refine Below.drew ?_) | (refine belowN ?_ _) | (refine Below.trans ?_ (Below.mono ‹Below _ _ _› (by first | omega | (simp; omega) | (simp; done))))))⟩
  have hd : decide ((400 : Int) < (l.length : Int)) = false := by simp; omega
  go_wp2
  go_loopw [2, 3, 4, 6, 14] (fun sv nv rv gv iv wr => ∃ i s n : Nat, i ≤ l.length ∧ iv = .int .i64 i ∧ sv = .int .i64 s ∧ nv = .int .i64 n ∧ rv = .int .i64 (runs l i : Nat) ∧ gv = .int .i64 (beg l (i - 1) : Nat) ∧ Hid (∃ p, BestOk (runN l) i p n ∧ (n = 0 → s = 0) ∧ (0 < n → s = beg l p)) ∧ Below w.heap.size w wr) (fun _ _ _ _ iv _ => l.length - (intOf iv).toNat)
  case atStart => exact ⟨0, 0, 0, by omega, rfl, rfl, rfl, rfl, rfl, Lib.hid ⟨0, BestOk.start _, fun _ => rfl, fun h => by omega⟩, by (repeat (first | exact Below.refl _ _ | assumption | (refine Below.alloc ?_ (by first | omega | (simp; omega) | (simp; done)) _) | (refine Below.setCell ?_ (by first | omega | (simp; omega) | (simp; done)) _) | (refine Below.drew ?_) | (refine belowN ?_ _) | (refine Below.trans ?_ (Below.mono ‹Below _ _ _› (by first | omega | (simp; omega) | (simp; done))))))⟩
  case round =>
    obtain ⟨i, s, n, hi, rfl, rfl, rfl, rfl, rfl, HB, hb⟩ := hrel
    by_cases hlt : i < l.length
    · have i0 : (0 : Int) ≤ (i : Int) := by omega
      have i1 : (i : Int) < (l.length : Int) := by omega
      have i2 : (i : Int) ≤ 400 := by omega
      have wi1 : IntKind.i64.wrap ((i : Int) + 1) = (i : Int) + 1 := IntWalk.i64_in _ ⟨by omega, by omega⟩
      have hrl := runs_le l i
      have hrs : runs l (i + 1) = runs l i + (if beg l i = i then 1 else 0) := rfl
      have wr1 : IntKind.i64.wrap (((runs l i : Nat) : Int) + 1) = ((runs l i : Nat) : Int) + 1 := IntWalk.i64_in _ ⟨by omega, by omega⟩
      by_cases hz : i = 0
      · have eg : beg l i = i := by rw [hz]; rfl
        have dz : ((i : Int) == 0) = true := by simp; omega
        clear hz
        have HRN : Hid (runs l (i + 1) = runs l i + 1) := by
          show _ = _
          rw [hrs, if_pos eg]
        have hone : runN l i = 1 := by
          unfold runN
          rw [eg]
          omega
        have HST : Hid (∃ p, BestOk (runN l) (i + 1) p (if n < 1 then 1 else n) ∧ ((if n < 1 then 1 else n) = 0 → (if n < 1 then i else s) = 0) ∧ (0 < (if n < 1 then 1 else n) → (if n < 1 then i else s) = beg l p)) := by
          obtain ⟨p, h1, h2, h3⟩ := HB.out
          have h4 := h1.step
          rw [hone] at h4
          refine ⟨_, h4, fun h0 => ?_, fun h0 => ?_⟩
          · by_cases h5 : n < 1
            · rw [if_pos h5] at h0; omega
            · rw [if_neg h5] at h0 ⊢; omega
          · by_cases h5 : n < 1
            · rw [if_pos h5, if_pos h5, eg]
            · rw [if_neg h5, if_neg h5]; exact h3 (by omega)
        have w5 : IntKind.i64.wrap ((i : Int) + 1 - (i : Int)) = 1 := by
          rw [show (i : Int) + 1 - (i : Int) = 1 by omega]
          exact IntWalk.i64_in _ ⟨by omega, by omega⟩
        have HEG : Hid (beg l (i + 1 - 1) = i) := by
          show _ = _
          rw [Nat.add_sub_cancel]
          exact eg
        have n0 : (0 : Int) ≤ (n : Int) := by omega
        clear hrs hone eg
        by_cases h5 : n < 1
        · have hd5 : decide ((n : Int) < 1) = true := by simp; omega
          go_upto_region 7 with fail
          go_quiet (fail)
          go_wp2
          refine ⟨⟨i + 1, i, 1, by omega, by go_num, rfl, rfl, ?_, ?_, ?_, belowN hb _⟩, ?_⟩
          · rw [HRN.out, Int.natCast_add]; rfl
          · rw [HEG.out]
          · have := HST.out
            rw [if_pos h5, if_pos h5] at this
            exact Lib.hid this
          · simp [intOf]; omega
        · have hd5 : decide ((n : Int) < 1) = false := by simp; omega
          go_upto_region 7 with fail
          go_quiet (fail)
          go_wp2
          refine ⟨⟨i + 1, s, n, by omega, by go_num, rfl, rfl, ?_, ?_, ?_, belowN hb _⟩, ?_⟩
          · rw [HRN.out, Int.natCast_add]; rfl
          · rw [HEG.out]
          · have := HST.out
            rw [if_neg h5, if_neg h5] at this
            exact Lib.hid this
          · simp [intOf]; omega
      · obtain ⟨k, hki⟩ : ∃ k, i = k + 1 := ⟨i - 1, by omega⟩
        have hk : k < l.length := by omega
        have dz : ((i : Int) == 0) = false := by simp; omega
        obtain ⟨b, f, rfl, hbb, hc⟩ := (HR.out.below hb).int_at hlt
        obtain ⟨b2, f2, he2, hbb2, hc2⟩ := (HR.out.below hb).int_at hk
        cases he2
        have w4 : IntKind.i64.wrap ((i : Int) - 1) = (k : Int) := by
          rw [show (i : Int) - 1 = (k : Int) by omega]
          exact IntWalk.i64_in _ ⟨by omega, by omega⟩
        have k0 : (0 : Int) ≤ (k : Int) := by omega
        have k1 : (k : Int) < (l.length : Int) := by omega
        have hik : l.getD i 0 = l[i] := by simp [hlt]
        have hkk : l.getD k 0 = l[k] := by simp [hk]
        by_cases hq : l[k] = l[i]
        · have eg : beg l i = beg l (i - 1) := by
            rw [hki, Nat.add_sub_cancel]
            simp only [beg]
            rw [if_pos (by rw [← hki, hik, hkk, hq])]
          have hbk := beg_le l (i - 1)
          rw [if_neg (by omega), Nat.add_zero] at hrs
          have HRN : Hid (runs l (i + 1) = runs l i) := hrs
          have dq : (l[k] != l[i]) = false := by simp; exact hq
          obtain ⟨g, hg⟩ : ∃ g, g = beg l (i - 1) := ⟨_, rfl⟩
          rw [← hg] at eg hbk ⊢
          have hfn : runN l i = i + 1 - g := by unfold runN; rw [eg]
          obtain ⟨N, hN⟩ : ∃ N, N = i + 1 - g := ⟨_, rfl⟩
          rw [← hN] at hfn
          have HST : Hid (∃ p, BestOk (runN l) (i + 1) p (if n < N then N else n) ∧ ((if n < N then N else n) = 0 → (if n < N then g else s) = 0) ∧ (0 < (if n < N then N else n) → (if n < N then g else s) = beg l p)) := by
            obtain ⟨p, h1, h2, h3⟩ := HB.out
            have h4 := h1.step
            rw [hfn] at h4
            refine ⟨_, h4, fun h0 => ?_, fun h0 => ?_⟩
            · by_cases h5 : n < N
              · rw [if_pos h5] at h0; omega
              · rw [if_neg h5] at h0 ⊢; omega
            · by_cases h5 : n < N
              · rw [if_pos h5, if_pos h5, eg]
              · rw [if_neg h5, if_neg h5]; exact h3 (by omega)
          have w5 : IntKind.i64.wrap ((i : Int) + 1 - (g : Int)) = (N : Int) := by
            rw [show (i : Int) + 1 - (g : Int) = (N : Int) by omega]
            exact IntWalk.i64_in _ ⟨by omega, by omega⟩
          have HEG : Hid (beg l (i + 1 - 1) = g) := by
            show _ = _
            rw [Nat.add_sub_cancel]
            exact eg
          have n0 : (0 : Int) ≤ (n : Int) := by omega
          clear hrs hfn eg hik hkk hki hN hg hq
          by_cases h5 : n < N
          · have hd5 : decide ((n : Int) < (N : Int)) = true := by simp; omega
            go_upto_region 7 with fail
            go_quiet (fail)
            go_wp2
            refine ⟨⟨i + 1, g, N, by omega, by go_num, rfl, rfl, ?_, ?_, ?_, belowN hb _⟩, ?_⟩
            · rw [HRN.out]
            · rw [HEG.out]
            · have := HST.out
              rw [if_pos h5, if_pos h5] at this
              exact Lib.hid this
            · simp [intOf]; omega
          · have hd5 : decide ((n : Int) < (N : Int)) = false := by simp; omega
            go_upto_region 7 with fail
            go_quiet (fail)
            go_wp2
            refine ⟨⟨i + 1, s, n, by omega, by go_num, rfl, rfl, ?_, ?_, ?_, belowN hb _⟩, ?_⟩
            · rw [HRN.out]
            · rw [HEG.out]
            · have := HST.out
              rw [if_neg h5, if_neg h5] at this
              exact Lib.hid this
            · simp [intOf]; omega
        · have eg : beg l i = i := by
            rw [← hik, ← hkk] at hq
            rw [hki] at hq ⊢
            simp only [beg]
            rw [if_neg hq]
          have dq : (l[k] != l[i]) = true := by simp; exact hq
          clear hik hkk hki
          have HRN : Hid (runs l (i + 1) = runs l i + 1) := by
            show _ = _
            rw [hrs, if_pos eg]
          have hone : runN l i = 1 := by
            unfold runN
            rw [eg]
            omega
          have HST : Hid (∃ p, BestOk (runN l) (i + 1) p (if n < 1 then 1 else n) ∧ ((if n < 1 then 1 else n) = 0 → (if n < 1 then i else s) = 0) ∧ (0 < (if n < 1 then 1 else n) → (if n < 1 then i else s) = beg l p)) := by
            obtain ⟨p, h1, h2, h3⟩ := HB.out
            have h4 := h1.step
            rw [hone] at h4
            refine ⟨_, h4, fun h0 => ?_, fun h0 => ?_⟩
            · by_cases h5 : n < 1
              · rw [if_pos h5] at h0; omega
              · rw [if_neg h5] at h0 ⊢; omega
            · by_cases h5 : n < 1
              · rw [if_pos h5, if_pos h5, eg]
              · rw [if_neg h5, if_neg h5]; exact h3 (by omega)
          have w5 : IntKind.i64.wrap ((i : Int) + 1 - (i : Int)) = 1 := by
            rw [show (i : Int) + 1 - (i : Int) = 1 by omega]
            exact IntWalk.i64_in _ ⟨by omega, by omega⟩
          have HEG : Hid (beg l (i + 1 - 1) = i) := by
            show _ = _
            rw [Nat.add_sub_cancel]
            exact eg
          have n0 : (0 : Int) ≤ (n : Int) := by omega
          clear hrs hone eg
          by_cases h5 : n < 1
          · have hd5 : decide ((n : Int) < 1) = true := by simp; omega
            go_upto_region 7 with fail
            go_quiet (fail)
            go_wp2
            refine ⟨⟨i + 1, i, 1, by omega, by go_num, rfl, rfl, ?_, ?_, ?_, belowN hb _⟩, ?_⟩
            · rw [HRN.out, Int.natCast_add]; rfl
            · rw [HEG.out]
            · have := HST.out
              rw [if_pos h5, if_pos h5] at this
              exact Lib.hid this
            · simp [intOf]; omega
          · have hd5 : decide ((n : Int) < 1) = false := by simp; omega
            go_upto_region 7 with fail
            go_quiet (fail)
            go_wp2
            refine ⟨⟨i + 1, s, n, by omega, by go_num, rfl, rfl, ?_, ?_, ?_, belowN hb _⟩, ?_⟩
            · rw [HRN.out, Int.natCast_add]; rfl
            · rw [HEG.out]
            · have := HST.out
              rw [if_neg h5, if_neg h5] at this
              exact Lib.hid this
            · simp [intOf]; omega
    · obtain rfl : i = l.length := by omega
      go_wp2
      refine bodyPost_ret (v := .tuple #[.int .i64 s, .int .i64 n, .int .i64 (runs l l.length : Nat), .int .i64 0]) (by simp [results, Try.results30, go_sem]) rfl ?_
      unfold RetLongest
      rw [if_neg (by omega)]
      exact ⟨s, n, HB.out, rfl, hb⟩
end Go.Proofs.Ytiikkcifdhcejaa

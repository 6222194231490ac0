/- almanac: Meet. -/
import Derived.Test.YtfbnllmmoaialaaGreatZ08Aj
import Derived.Deep.CutBlock
namespace Go.Proofs.YtfbnllmmoaialaaGreat
open Go.RowKit

/-- the first day, of n that are tried, with a position in a cycle -/
def seek (c : Cyc) (p per : Int) : Nat → Int → Option Int
  | 0, _ => none
  | n + 1, d => if posI c d == p then some d else if 1000000 < d + per then none else seek c p per n (d + per)
/-- cycle by cycle -/
def meetL : List (Cyc × Int) → Int → Int → Option (Int × Int)
  | [], d, per => some (d, per)
  | (c, p) :: l, d, per => match seek c p per c.l.toNat d with
    | none => none
    | some d' => meetL l d' (per * (c.l / gI c.l per))
def posOk (l : List (Cyc × Int)) : Bool := l.all fun x => inB x.2 0 (x.1.l - 1)
def meetS : Option (Int × Int) → Int × Int × Int
  | none => (0, 0, 7)
  | some x => (x.1, x.2, 0)
/-- the first day with some positions, and the period, or the error -/
def meetR (cs : List Cyc) (ps : List Int) (d : Int) : Int × Int × Int :=
  if 8 < cs.length then (0, 0, 5) else if cs.all cycB = false then (0, 0, 2) else if ps.length ≠ cs.length then (0, 0, 4) else if posOk (cs.zip ps) = false then (0, 0, 4) else if inB d 0 1000000 = false then (0, 0, 3) else
  meetS (meetL (cs.zip ps) d 1)
theorem seek_bd {c : Cyc} {p per : Int} (h : 0 ≤ per) : ∀ (n : Nat) (d e : Int), 0 ≤ d → d ≤ 1000000 → seek c p per n d = some e → 0 ≤ e ∧ e ≤ 1000000
  | 0, _, _, _, _, he => by cases he
  | n + 1, d, e, h0, h1, he => by
    unfold seek at he
    split at he
    · cases he; exact ⟨h0, h1⟩
    · split at he
      · cases he
      · exact seek_bd h n _ _ (by omega) (by omega) he
theorem per_bd {c : Cyc} (hc : cycB c = true) {per : Int} (h1 : 1 ≤ per) : 1 ≤ c.l / gI c.l per ∧ c.l / gI c.l per ≤ 64 := by
  obtain ⟨⟨a, b⟩, -⟩ := cycB_iff.1 hc
  have hg : 0 < gI c.l per := gI_pos (.inl (by omega))
  have hd := gI_dvd_left (a := c.l) (b := per) (by omega)
  have hle := gI_le_left per (show 0 < c.l by omega)
  refine ⟨?_, ?_⟩
  · have := Int.ediv_le_ediv hg hle
    rw [Int.ediv_self (by omega)] at this
    exact this
  · have := (ediv_bd (x := c.l) (p := gI c.l per) (B := 64) (by omega) (by omega) b).2
    exact this
theorem mulpow_bd {k : Nat} {P Q : Int} (h1 : 1 ≤ P) (h2 : P ≤ 64 ^ k) (h3 : 1 ≤ Q) (h4 : Q ≤ 64) : 1 ≤ P * Q ∧ P * Q ≤ 64 ^ (k + 1) := by
  have h5 := Int.mul_le_mul h1 h3 (by omega) (by omega)
  have h6 := Int.mul_le_mul h2 h4 (by omega) (by omega)
  rw [Int.pow_succ]
  omega
theorem pow_bd {k n : Nat} {P : Int} (hk : k ≤ n) (hn : n ≤ 8) (h : P ≤ 64 ^ k) : P ≤ 281474976710656 := by
  have h1 : (64 : Nat) ^ k ≤ 64 ^ 8 := Nat.pow_le_pow_right (by decide) (by omega)
  have h2 : ((64 ^ k : Nat) : Int) ≤ ((64 ^ 8 : Nat) : Int) := Int.ofNat_le.2 h1
  rw [Int.natCast_pow] at h2
  have h3 : ((64 ^ 8 : Nat) : Int) = 281474976710656 := by decide
  rw [h3] at h2
  exact Int.le_trans h h2
set_option maxRecDepth 100000 in
set_option maxHeartbeats 8000000 in
theorem meet_any (A : Option Addr) (c : Nat) (cs : List Cyc) (A2 : Option Addr) (c2 : Nat) (ps : List Int) (d : Int) (w : World) (hl : cs.length ≤ 1000000) (hl2 : ps.length ≤ 1000000) (hr : Sl Cyc.cells 2 w w.heap.size A cs) (hr2 : Sl intCell 1 w w.heap.size A2 ps) :
    Calls Tryz.prog 14 #[.slice A cs.length c, .slice A2 ps.length c2, .int .i64 d] w fun e w' => e = .returned (.tuple #[.int .i64 (meetR cs ps d).1, .int .i64 (meetR cs ps d).2.1, .int .i64 (meetR cs ps d).2.2]) ∧ Below w.heap.size w w' := by
  by_cases h8 : cs.length ≤ 8
  · have d1 : decide (8 < (cs.length : Int)) = false := by simp; omega
    have d1' : decide (8 < cs.length) = false := by simp; omega
    cases hc : cs.all cycB with
    | false =>
      have HCV := Lib.hid (fun W (hW : Below w.heap.size w W) => (by have h := areCycles_any A c cs W hl ((hr.below hW).more hW.size); rw [hc] at h; exact h : Calls Tryz.prog 34 #[.slice A cs.length c] W fun e w' => e = .returned (.bool false) ∧ Below W.heap.size W w'))
      have HT : Hid (meetR cs ps d = (0, 0, 2)) := (by unfold meetR; rw [if_neg (by omega), if_pos hc] : meetR cs ps d = _)
      clear hc hr hr2
      go_enter Tryz.func14, Tryz.ntmps14
      go_wp2_with (go_at_call 34; refine (HCV.out _ (by (repeat (first | exact Below.refl _ _ | assumption | (refine Below.alloc ?_ (by first | omega | (simp; omega) | (simp; done)) _) | (refine Below.setCell ?_ (by first | omega | (simp; omega) | (simp; done)) _) | (refine Below.drew ?_) | (refine belowN ?_ _) | (refine Below.trans ?_ (Below.mono ‹Below _ _ _› (by first | omega | (simp; omega) | (simp; done)))))))).mono ?_; rintro _ W1 ⟨rfl, hb1⟩)
      refine bodyPost_ret (v := .tuple #[.int .i64 0, .int .i64 0, .int .i64 2]) (by simp [results, Tryz.results14, go_sem]) rfl ?_
      rw [HT.out]; exact ⟨rfl, hb1⟩
    | true =>
      have HCV := Lib.hid (fun W (hW : Below w.heap.size w W) => (by have h := areCycles_any A c cs W hl ((hr.below hW).more hW.size); rw [hc] at h; exact h : Calls Tryz.prog 34 #[.slice A cs.length c] W fun e w' => e = .returned (.bool true) ∧ Below W.heap.size W w'))
      by_cases hne : ps.length = cs.length
      · have HR := Lib.hid hr; have HR2 := Lib.hid hr2; have HNE := Lib.hid hne
        have hcy : ∀ x ∈ cs, cycB x = true := List.all_eq_true.1 hc
        have HCY := Lib.hid hcy
        have HT0 : Hid (meetR cs ps d = if posOk (cs.zip ps) = false then (0, 0, 4) else if inB d 0 1000000 = false then (0, 0, 3) else meetS (meetL (cs.zip ps) d 1)) := (by unfold meetR; rw [if_neg (by omega), if_neg (by simp [hc]), if_neg (by simp [hne])] : meetR cs ps d = _)
        have n1 : ((ps.length : Int) != (cs.length : Int)) = false := by simp [hne]
        obtain ⟨pn, hpn⟩ : ∃ n, n = ps.length := ⟨_, rfl⟩
        rw [← hpn] at n1 ⊢
        have HPN := Lib.hid hpn
        clear hc hr hr2 hne hcy hpn
        go_enter Tryz.func14, Tryz.ntmps14
        go_wp2_with (go_at_call 34; refine (HCV.out _ (by (repeat (first | exact Below.refl _ _ | assumption | (refine Below.alloc ?_ (by first | omega | (simp; omega) | (simp; done)) _) | (refine Below.setCell ?_ (by first | omega | (simp; omega) | (simp; done)) _) | (refine Below.drew ?_) | (refine belowN ?_ _) | (refine Below.trans ?_ (Below.mono ‹Below _ _ _› (by first | omega | (simp; omega) | (simp; done)))))))).mono ?_; rintro _ W1 ⟨rfl, hb1⟩)
        have hw1 := hb1
        go_loopw [9, 10, 30] (fun _ _ i wr => ∃ k : Nat, k ≤ cs.length ∧ i = .int .i64 k ∧ Below w.heap.size w wr ∧ Hid (posOk ((cs.zip ps).take k) = true)) (fun _ _ i _ => cs.length - (intOf i).toNat)
        case atStart => exact ⟨0, by omega, rfl, hw1, (rfl : posOk [] = true)⟩
        case round =>
          obtain ⟨k, hk, rfl, hb, HOK⟩ := hrel
          by_cases hlt : k < cs.length
          · obtain ⟨ab, ao, rfl, hblk, hcell⟩ := (HR.out.below hb).at_ (k := k) (fun _ => rfl) hlt
            obtain ⟨pb, po, rfl, hpblk, hpc⟩ := (HR2.out.below hb).int_at (k := k) (by have := HNE.out; omega)
            have HZ : Hid ((cs.zip ps).take (k + 1) = (cs.zip ps).take k ++ [(cs[k], ps[k]'(by have := HNE.out; omega))]) := (by
              have hz : k < (cs.zip ps).length := by have := HNE.out; simp; omega
              rw [List.take_succ_eq_append_getElem hz]; simp : _ = _)
            have hcy := HCY.out _ (List.getElem_mem hlt)
            obtain ⟨q, hq⟩ : ∃ q, q = cs[k] := ⟨_, rfl⟩
            obtain ⟨x, hx⟩ : ∃ x, x = ps[k]'(by have := HNE.out; omega) := ⟨_, rfl⟩
            rw [← hq] at hcell hcy HZ
            rw [← hx] at hpc HZ
            obtain ⟨ql, qs⟩ := q
            have e0 : wr.cell? ⟨ab, ao + k * 2, none⟩ = some (.int .i64 ql) := hcell 0 _ rfl
            have e1 : wr.cell? ⟨ab, ao + k * 2 + 1, none⟩ = some (.int .i64 qs) := hcell 1 _ rfl
            obtain ⟨⟨l1, l2⟩, -⟩ := cycB_iff.1 hcy
            simp only at l1 l2
            have v1 : IntKind.i64.wrap (ql - 1) = ql - 1 := IntWalk.i64_in _ ⟨by omega, by omega⟩
            have k0 : (0 : Int) ≤ (k : Int) := by omega
            have k1 : (k : Int) < (cs.length : Int) := by omega
            have k2 : (k : Int) < (pn : Int) := by have := HNE.out; have := HPN.out; omega
            clear hcell hq hx
            go_upto_region 10 with fail
            obtain ⟨bx, hbx⟩ : ∃ b, b = wr.heap.size := ⟨_, rfl⟩
            rw [← hbx]
            refine gen_w (fun W => Below w.heap.size w W ∧ Blk W bx #[.int .i64 ql, .int .i64 qs] 52 ∧ W.cell? ⟨pb, po + k, none⟩ = some (.int .i64 x)) ⟨bla hb, Blk.at_ hbx, (World.cell?_alloc_lt _ _ _ (by show pb < wr.heap.size; have := hb.size; omega)).trans hpc⟩ ?_
            clear hpc e0 e1 hb hbx
            rintro W2 ⟨hb, gq, hpc⟩
            have e0 := gq.cell 0
            simp at e0
            cases hp : inB x 0 (ql - 1) with
            | false =>
              have HPV := Lib.hid (fun W => within_val hp W)
              have HT : Hid (meetR cs ps d = (0, 0, 4)) := (by
                rw [HT0.out, if_pos]
                have hz : posOk ((cs.zip ps).take (k + 1)) = false := by rw [HZ.out]; simp [posOk, hp]
                cases h9 : posOk (cs.zip ps) with
                | false => rfl
                | true =>
                  have : posOk ((cs.zip ps).take (k + 1)) = true := List.all_eq_true.2 fun y hy => List.all_eq_true.1 h9 y (List.mem_of_mem_take hy)
                  exact absurd (hz.symm.trans this) (by decide) : meetR cs ps d = _)
              clear hp HT0
              (refine wp_region_ext (by kernel_rfl) (by kernel_rfl) ?_; (repeat (go_big_quiet_step((go_at_call 35; with_reducible exact Calls.ext_same (HPV.out _))))); with_reducible refine wpQuiet_nil ?_; intro w1 hw1; have hb1 := ext_below hw1; clear hw1)
              go_wp2_with fail
              refine bodyPost_ret (v := .tuple #[.int .i64 0, .int .i64 0, .int .i64 4]) (by simp [results, Tryz.results14, go_sem]) rfl ?_
              rw [HT.out]; exact ⟨rfl, bl2 hb hb1⟩
            | true =>
              have HPV := Lib.hid (fun W => within_val hp W)
              have HOK2 : Hid (posOk ((cs.zip ps).take (k + 1)) = true) := (by
                rw [HZ.out]
                have h1 := HOK.out
                unfold posOk at h1 ⊢
                rw [List.all_append, h1]; simp [hp] : posOk ((cs.zip ps).take (k + 1)) = true)
              clear hp
              (refine wp_region_ext (by kernel_rfl) (by kernel_rfl) ?_; (repeat (go_big_quiet_step((go_at_call 35; with_reducible exact Calls.ext_same (HPV.out _))))); with_reducible refine wpQuiet_nil ?_; intro w1 hw1; have hb1 := ext_below hw1; clear hw1)
              go_wp2_with fail
              go_roundw
              case rel => exact ⟨k + 1, by omega, by go_num, bl2 hb hb1, HOK2⟩
              case measure => simp [intOf] <;> omega
          · obtain rfl : k = cs.length := by omega
            have HPO : Hid (posOk (cs.zip ps) = true) := (by have h := HOK.out; rwa [List.take_of_length_le (by simp; omega)] at h : posOk (cs.zip ps) = true)
            have HT1 : Hid (meetR cs ps d = if inB d 0 1000000 = false then (0, 0, 3) else meetS (meetL (cs.zip ps) d 1)) := (by rw [HT0.out, if_neg (by rw [HPO.out]; decide)] : meetR cs ps d = _)
            clear HT0 HOK hk hlt
            cases hd : inB d 0 1000000 with
            | false =>
              have HDV := Lib.hid (fun W => isDay_val hd W)
              have HT : Hid (meetR cs ps d = (0, 0, 3)) := (by rw [HT1.out, if_pos hd] : meetR cs ps d = _)
              clear hd HT1
              go_wp2_with (go_at_call 36; refine (HDV.out _).mono ?_; rintro _ _ ⟨rfl, rfl⟩)
              refine bodyPost_ret (v := .tuple #[.int .i64 0, .int .i64 0, .int .i64 3]) (by simp [results, Tryz.results14, go_sem]) rfl ?_
              rw [HT.out]; exact ⟨rfl, hb⟩
            | true =>
              have HDV := Lib.hid (fun W => isDay_val hd W)
              obtain ⟨d0, d00⟩ := inB_iff.1 hd
              have HT : Hid (meetR cs ps d = meetS (meetL (cs.zip ps) d 1)) := (by rw [HT1.out, if_neg (by rw [hd]; decide)] : meetR cs ps d = _)
              clear hd HT1
              go_wp2_with (go_at_call 36; refine (HDV.out _).mono ?_; rintro _ _ ⟨rfl, rfl⟩)
              go_loopw [6, 7, 8, 11, 12, 13, 51] (fun dd per _ _ _ _ i wr => ∃ (k : Nat) (D P : Int), k ≤ cs.length ∧ i = .int .i64 k ∧ dd = .int .i64 D ∧ per = .int .i64 P ∧ 0 ≤ D ∧ D ≤ 1000000 ∧ 1 ≤ P ∧ P ≤ 64 ^ k ∧ Below w.heap.size w wr ∧ Hid (meetR cs ps d = meetS (meetL ((cs.zip ps).drop k) D P))) (fun _ _ _ _ _ _ i _ => cs.length - (intOf i).toNat)
              case atStart => exact ⟨0, d, 1, by omega, rfl, rfl, rfl, d0, d00, by omega, by simp, hb, HT⟩
              case round =>
                obtain ⟨k, D, P, hk, rfl, rfl, rfl, hD0, hD1, hP1, hPk, hb, HM⟩ := hrel
                have hP64 := pow_bd hk h8 hPk
                by_cases hlt : k < cs.length
                · obtain ⟨ab, ao, rfl, hblk, hcell⟩ := (HR.out.below hb).at_ (k := k) (fun _ => rfl) hlt
                  have hkp : k < ps.length := by have := HNE.out; omega
                  obtain ⟨pb, po, rfl, hpblk, hpc⟩ := (HR2.out.below hb).int_at (k := k) hkp
                  have HZ : Hid ((cs.zip ps).drop k = (cs[k], ps[k]) :: (cs.zip ps).drop (k + 1)) := (by
                    have hz : k < (cs.zip ps).length := by simp; omega
                    rw [List.drop_eq_getElem_cons hz]; simp : _ = _)
                  have hcy := HCY.out _ (List.getElem_mem hlt)
                  obtain ⟨q, hq⟩ : ∃ q, q = cs[k] := ⟨_, rfl⟩
                  obtain ⟨x, hx⟩ : ∃ x, x = ps[k] := ⟨_, rfl⟩
                  rw [← hq] at hcell hcy HZ
                  rw [← hx] at hpc HZ
                  have hpb := per_bd hcy hP1
                  obtain ⟨ql, qs⟩ := q
                  have e0 : wr.cell? ⟨ab, ao + k * 2, none⟩ = some (.int .i64 ql) := hcell 0 _ rfl
                  have e1 : wr.cell? ⟨ab, ao + k * 2 + 1, none⟩ = some (.int .i64 qs) := hcell 1 _ rfl
                  obtain ⟨⟨l1, l2⟩, -⟩ := cycB_iff.1 hcy
                  simp only at l1 l2 hpb
                  have k0 : (0 : Int) ≤ (k : Int) := by omega
                  have k1 : (k : Int) < (cs.length : Int) := by omega
                  have k2 : (k : Int) < (pn : Int) := by have := HPN.out; omega
                  clear hcell hq hx
                  go_upto_region 19 with fail
                  obtain ⟨bx, hbx⟩ : ∃ b, b = wr.heap.size := ⟨_, rfl⟩
                  rw [← hbx]
                  refine gen_w (fun W => Below w.heap.size w W ∧ Blk W bx #[.int .i64 ql, .int .i64 qs] 52 ∧ W.cell? ⟨pb, po + k, none⟩ = some (.int .i64 x)) ⟨bla hb, Blk.at_ hbx, (World.cell?_alloc_lt _ _ _ (by show pb < wr.heap.size; have := hb.size; omega)).trans hpc⟩ ?_
                  have hpx : pb < bx := by have := hb.size; omega
                  clear hpc e0 e1 hb hbx
                  clear wr
                  rintro W2 ⟨hb, gq, hpc⟩
                  have e0 := gq.cell 0; have e1 := gq.cell 1
                  simp at e0 e1
                  have hHM : Hid (meetR cs ps d = meetS (match seek ⟨ql, qs⟩ x P ql.toNat D with | none => none | some d' => meetL ((cs.zip ps).drop (k + 1)) d' (P * (ql / gI ql P)))) := (by rw [HM.out, HZ.out]; rfl : meetR cs ps d = _)
                  clear HM HZ
                  have HQ0 : Hid ((ql : Int) = (ql.toNat : Int)) := (by omega : (ql : Int) = _)
                  obtain ⟨qn, hqn⟩ : ∃ n, n = ql.toNat := ⟨_, rfl⟩
                  rw [← hqn] at hHM HQ0
                  have hq64 : qn ≤ 64 := by omega
                  clear hqn
                  go_wp2_with fail
                  go_loopw [6, 7, 13] (fun dd pp tr wr => ∃ (n : Nat) (E : Int), n ≤ 64 ∧ dd = .int .i64 E ∧ pp = .int .i64 P ∧ tr = .int .i64 n ∧ 0 ≤ E ∧ E ≤ 1000000 ∧ Below W2.heap.size W2 wr ∧ Hid (seek ⟨ql, qs⟩ x P qn D = seek ⟨ql, qs⟩ x P n E)) (fun _ _ tr _ => (intOf tr).toNat)
                  case atStart => exact ⟨qn, D, hq64, rfl, rfl, by rw [HQ0.out], hD0, hD1, Below.refl _ _, rfl⟩
                  case round =>
                    obtain ⟨n, E, hn, rfl, rfl, rfl, hE0, hE1, hb2, HS⟩ := hrel
                    have hbw := bl2 hb hb2
                    have gq := gq.below hb2 gq.lt
                    have hpc : wr.cell? ⟨pb, po + k, none⟩ = some (.int .i64 x) := (hb2.cell (p := ⟨pb, po + k, none⟩) (by have := hb.size; show pb < W2.heap.size; omega)).trans hpc
                    have e0 := gq.cell 0; have e1 := gq.cell 1
                    simp at e0 e1
                    cases n with
                    | zero =>
                      have HT : Hid (meetR cs ps d = (0, 0, 7)) := (by rw [hHM.out, HS.out] : meetR cs ps d = meetS (match seek ⟨ql, qs⟩ x P 0 E with | none => none | some d' => meetL ((cs.zip ps).drop (k + 1)) d' (P * (ql / gI ql P))))
                      clear hHM HS
                      go_upto_region 20 with fail
                      (refine wp_region_ext (by kernel_rfl) (by kernel_rfl) ?_; (repeat (go_big_quiet_step((fail)))); with_reducible refine wpQuiet_nil ?_; intro w1 hw1; have hb1 := ext_below hw1; clear hw1)
                      have hbw := bl2 hbw hb1
                      go_wp2_with fail
                      refine bodyPost_ret (v := .tuple #[.int .i64 0, .int .i64 0, .int .i64 7]) (by simp [results, Tryz.results14, go_sem]) rfl ?_
                      rw [HT.out]; exact ⟨rfl, hbw⟩
                    | succ n =>
                      have HPO2 := Lib.hid (fun W => position_any ql qs E W hcy hE0 (by omega))
                      obtain ⟨y, hy⟩ : ∃ y, y = posI ⟨ql, qs⟩ E := ⟨_, rfl⟩
                      rw [← hy] at HPO2
                      have HY := Lib.hid hy
                      have t0 : decide ((0 : Int) < ((n + 1 : Nat) : Int)) = true := by first | (simp; done) | (simp; omega)
                      clear hy
                      by_cases hyx : y = x
                      · have n1 : (y != x) = false := by simp [hyx]
                        have HM2 : Hid (meetR cs ps d = meetS (meetL ((cs.zip ps).drop (k + 1)) E (P * (ql / gI ql P)))) := (by
                          rw [hHM.out, HS.out]
                          have h1 : seek ⟨ql, qs⟩ x P (n + 1) E = some E := by unfold seek; rw [if_pos (by rw [← HY.out, hyx]; simp)]
                          rw [h1] : meetR cs ps d = meetS (meetL ((cs.zip ps).drop (k + 1)) E (P * (ql / gI ql P))))
                        have HDI := Lib.hid (fun W => divisor_any ql P W (by omega) (by omega) (by omega) (by omega))
                        have hg : 0 < gI ql P := gI_pos (.inl (by omega))
                        obtain ⟨g, hge⟩ : ∃ g, g = gI ql P := ⟨_, rfl⟩
                        obtain ⟨Q, hQ⟩ : ∃ Q, Q = ql / g := ⟨_, rfl⟩
                        rw [← hge] at HDI hg hpb HM2
                        rw [← hQ] at hpb HM2
                        have g0 : (g == 0) = false := by simp; omega
                        have hPQ : 1 ≤ P * Q ∧ P * Q ≤ 64 ^ (k + 1) := mulpow_bd hP1 hPk hpb.1 hpb.2
                        have hPQ2 := mul_bd (a := P) (b := Q) (A := 281474976710656) (B := 64) (by omega) hP64 (by omega) hpb.2
                        have w1 : IntKind.i64.wrap (P * Q) = P * Q := IntWalk.i64_in _ ⟨by omega, by omega⟩
                        have gn : ¬ (g = 0) := by omega
                        have t1 : IntKind.i64.wrap (ql.tdiv g) = Q := by rw [Int.tdiv_eq_ediv_of_nonneg (by omega), ← hQ]; exact IntWalk.i64_in _ ⟨by omega, by omega⟩
                        clear hQ
                        clear hHM HS hge hyx HY hPQ2 hpb
                        go_upto_region 20 with fail
                        (refine wp_region_ext (by kernel_rfl) (by kernel_rfl) ?_; (repeat (go_big_quiet_step((go_at_call 37; with_reducible exact Calls.ext_of (HPO2.out _))))); with_reducible refine wpQuiet_nil ?_; intro w1 hw1; have hb1 := ext_below hw1; clear hw1)
                        have hbw := bl2 hbw hb1
                        have gq := gq.below hb1 gq.lt
                        have e0 := gq.cell 0; have e1 := gq.cell 1
                        simp at e0 e1
                        have m1 : (((n + 1 : Nat) : Int) == 0) = false := by simp; omega
                        clear hb1
                        go_upto_region 27 with fail
                        (refine wp_region_ext (by kernel_rfl) (by kernel_rfl) ?_; (repeat (go_big_quiet_step((go_at_call 38; with_reducible exact Calls.ext_of (HDI.out _))))); with_reducible refine wpQuiet_nil ?_; intro w1 hw1; have hb1 := ext_below hw1; clear hw1)
                        have hbw := bl2 hbw hb1
                        go_wp2_with fail
                        go_roundw
                        case rel => exact ⟨k + 1, E, P * Q, by omega, by go_num, rfl, rfl, hE0, hE1, hPQ.1, hPQ.2, hbw, HM2⟩
                        case measure => simp [intOf] <;> omega
                      · have n1 : (y != x) = true := by simp [hyx]
                        have m1 : IntKind.i64.wrap (((n + 1 : Nat) : Int) - 1) = (n : Int) := by rw [show (((n + 1 : Nat) : Int) - 1) = (n : Int) by omega]; exact IntWalk.i64_in _ ⟨by omega, by omega⟩
                        have w1 : IntKind.i64.wrap (E + P) = E + P := IntWalk.i64_in _ ⟨by omega, by omega⟩
                        have hsk : seek ⟨ql, qs⟩ x P (n + 1) E = if 1000000 < E + P then none else seek ⟨ql, qs⟩ x P n (E + P) := by
                          conv => lhs; unfold seek
                          rw [if_neg (by rw [← HY.out]; simpa using hyx)]
                        have HSK := Lib.hid hsk
                        clear hsk hyx HY
                        go_upto_region 20 with fail
                        (refine wp_region_ext (by kernel_rfl) (by kernel_rfl) ?_; (repeat (go_big_quiet_step((go_at_call 37; with_reducible exact Calls.ext_of (HPO2.out _))))); with_reducible refine wpQuiet_nil ?_; intro w1 hw1; have hb1 := ext_below hw1; clear hw1)
                        have hb3 := bl2 hb2 hb1
                        have hbw := bl2 hbw hb1
                        by_cases hbig : 1000000 < E + P
                        · have b1 : decide (1000000 < E + P) = true := by simpa using hbig
                          have HT : Hid (meetR cs ps d = (0, 0, 7)) := (by rw [hHM.out, HS.out, HSK.out, if_pos hbig] : meetR cs ps d = meetS (match (none : Option Int) with | none => none | some d' => meetL ((cs.zip ps).drop (k + 1)) d' (P * (ql / gI ql P))))
                          clear hHM HS HSK
                          go_wp2_with fail
                          refine bodyPost_ret (v := .tuple #[.int .i64 0, .int .i64 0, .int .i64 7]) (by simp [results, Tryz.results14, go_sem]) rfl ?_
                          rw [HT.out]; exact ⟨rfl, hbw⟩
                        · have b1 : decide (1000000 < E + P) = false := by simpa using hbig
                          have HS2 : Hid (seek ⟨ql, qs⟩ x P qn D = seek ⟨ql, qs⟩ x P n (E + P)) := (by rw [HS.out, HSK.out, if_neg hbig] : seek ⟨ql, qs⟩ x P qn D = seek ⟨ql, qs⟩ x P n (E + P))
                          clear HS HSK
                          go_wp2_with fail
                          go_roundw
                          case rel => exact ⟨n, E + P, by omega, rfl, rfl, by go_num, by omega, by omega, hb3, HS2⟩
                          case measure => simp [intOf] <;> omega
                · obtain rfl : k = cs.length := by omega
                  have HT2 : Hid (meetR cs ps d = (D, P, 0)) := (by rw [HM.out, List.drop_eq_nil_of_le (by simp; omega)]; rfl : meetR cs ps d = (D, P, 0))
                  clear HM
                  go_wp2_with fail
                  refine bodyPost_ret (v := .tuple #[.int .i64 D, .int .i64 P, .int .i64 0]) (by simp [results, Tryz.results14, go_sem]) rfl ?_
                  rw [HT2.out]; exact ⟨rfl, hb⟩
      · have n1 : ((ps.length : Int) != (cs.length : Int)) = true := by simp; omega
        have HT : Hid (meetR cs ps d = (0, 0, 4)) := (by unfold meetR; rw [if_neg (by omega), if_neg (by simp [hc]), if_pos hne] : meetR cs ps d = _)
        clear hc hr hr2
        go_enter Tryz.func14, Tryz.ntmps14
        go_wp2_with (go_at_call 34; refine (HCV.out _ (by (repeat (first | exact Below.refl _ _ | assumption | (refine Below.alloc ?_ (by first | omega | (simp; omega) | (simp; done)) _) | (refine Below.setCell ?_ (by first | omega | (simp; omega) | (simp; done)) _) | (refine Below.drew ?_) | (refine belowN ?_ _) | (refine Below.trans ?_ (Below.mono ‹Below _ _ _› (by first | omega | (simp; omega) | (simp; done)))))))).mono ?_; rintro _ W1 ⟨rfl, hb1⟩)
        refine bodyPost_ret (v := .tuple #[.int .i64 0, .int .i64 0, .int .i64 4]) (by simp [results, Tryz.results14, go_sem]) rfl ?_
        rw [HT.out]; exact ⟨rfl, hb1⟩
  · have d1 : decide (8 < (cs.length : Int)) = true := by simp; omega
    have d1' : decide (8 < cs.length) = true := by simp; omega
    have HT : Hid (meetR cs ps d = (0, 0, 5)) := (by unfold meetR; rw [if_pos (by omega)] : meetR cs ps d = _)
    clear hr hr2
    go_enter Tryz.func14, Tryz.ntmps14
    go_wp2
    refine bodyPost_ret (v := .tuple #[.int .i64 0, .int .i64 0, .int .i64 5]) (by simp [results, Tryz.results14, go_sem]) rfl ?_
    rw [HT.out]; exact ⟨rfl, Below.refl _ _⟩
end Go.Proofs.YtfbnllmmoaialaaGreat

/- almanac: the reference's Decides, Allowed. -/
import Derived.Test.YtfbnllmmoaialaaGreatZ25RfD
import Derived.Test.YtfbnllmmoaialaaGreatZ15Ax
import Derived.Test.YtfbnllmmoaialaaGreatZ19Fa
import Derived.Test.YtfbnllmmoaialaaGreatBe
import Derived.Test.YtfbnllmmoaialaaGreatZ22Kw
import Derived.Deep.RegionHeldLaw
import Derived.Deep.AppendLies
namespace Go.Proofs.YtfbnllmmoaialaaGreat
open Go.RowKit

/-- the rules of persons can be read -/
structure PsA (W : World) (B : Nat) (A : Option Addr) (ps : List DPs) : Prop where
  len : ps.length ≤ 1000000
  sl : Sl DPs.cells 1 W B A ps
  rul : ∀ p ∈ ps, RlsAt W B p.a p.rules
theorem PsA.below {W W' : World} {B : Nat} {A : Option Addr} {l : List DPs} (h : PsA W B A l) (hb : Below B W W') : PsA W' B A l := ⟨h.len, h.sl.below hb, fun r hr => (h.rul r hr).below hb⟩
theorem PsA.more {W : World} {B B' : Nat} {A : Option Addr} {l : List DPs} (h : PsA W B A l) (hB : B ≤ B') : PsA W B' A l := ⟨h.len, h.sl.more hB, fun r hr => (h.rul r hr).more hB⟩
theorem lastTo_succ {p : DRl → Bool} {rs : List DRl} {n : Nat} (h : n < rs.length) : lastTo p rs (n + 1) = if p rs[n] then (n : Int) else lastTo p rs n := by
  simp only [lastTo, List.getElem?_eq_getElem h]
theorem tst_of_good {l : List Cyc} {r : DRl} (h : badR l r = false) : ∀ t ∈ r.when_, tstB l t = true := fun t ht => by
  unfold badR at h
  simp only [Bool.or_eq_false_iff, List.any_eq_false] at h
  simpa using h.2 t ht
set_option maxRecDepth 100000 in
set_option maxHeartbeats 4000000 in
theorem rdecides_any (x : Alm) (A2 : Option Addr) (c2 : Nat) (rs : List DRl) (day : Int) (w : World) (hx : almB x = true) (d0 : 0 ≤ day) (d1 : day ≤ 1000000) (hv : ∀ r ∈ rs, badR x.cycles r = false) (hcx : Sl Cyc.cells 2 w w.heap.size x.a x.cycles) (hr : RlsAt w w.heap.size A2 rs) :
    Calls Tryz.prog 57 #[.agg x.cells.toArray, .slice A2 rs.length c2, .agg (datesV day (solI x.sol day) (moonI x.lun day))] w fun e w' => e = .returned (.int .i64 (decI x rs day)) ∧ Below w.heap.size w w' := by
  have hlen := hr.len
  have HRL := Lib.hid hr
  have HHD := Lib.hid (fun (t : DTs) (W : World) (hW : Below w.heap.size w W) (hst : 0 ≤ t.set ∧ t.set < 18446744073709551616) (hT : tstB x.cycles t = true) => rholds_any x t day W hx d0 d1 hst hT ((hcx.below hW).more hW.size))
  have HAP : Hid (∀ r, applB x day r = r.when_.all fun t => holdB x t day) := (fun _ => rfl : ∀ r, applB x day r = r.when_.all fun t => holdB x t day)
  obtain ⟨H, hH⟩ : ∃ H : DTs → Bool, H = fun t => holdB x t day := ⟨_, rfl⟩
  have HH := Lib.hid hH
  have HHD2 : Hid (∀ (t : DTs) (W : World), Below w.heap.size w W → (0 ≤ t.set ∧ t.set < 18446744073709551616) → tstB x.cycles t = true → Calls Tryz.prog 89 #[.agg x.cells.toArray, tval t, .agg (datesV day (solI x.sol day) (moonI x.lun day))] W fun e w' => e = .returned (.bool (H t)) ∧ Below W.heap.size W w') := (fun t W h1 h2 h3 => by rw [hH]; exact HHD.out t W h1 h2 h3 : ∀ (t : DTs) (W : World), Below w.heap.size w W → (0 ≤ t.set ∧ t.set < 18446744073709551616) → tstB x.cycles t = true → Calls Tryz.prog 89 #[.agg x.cells.toArray, tval t, .agg (datesV day (solI x.sol day) (moonI x.lun day))] W fun e w' => e = .returned (.bool (H t)) ∧ Below W.heap.size W w')
  have HD : Hid (decI x rs day = lastTo (fun r => r.when_.all H) rs rs.length) := (by rw [hH]; rfl : decI x rs day = _)
  obtain ⟨res, hres⟩ : ∃ z, z = decI x rs day := ⟨_, rfl⟩
  rw [← hres] at HD ⊢
  have HVV := Lib.hid hv
  clear hH hr hv hx HHD HAP hres HH
  obtain ⟨A, c, l, ⟨e, b, u⟩, ⟨d, p, f, m, y, s, k⟩⟩ := x
  simp only at HHD2 HVV
  obtain ⟨⟨sy, sm, sd⟩, hso⟩ : ∃ z, z = solI ⟨e, b, u⟩ day := ⟨_, rfl⟩
  obtain ⟨⟨my, mm, md, mk⟩, hmo⟩ : ∃ z, z = moonI ⟨d, p, f, m, y, s, k⟩ day := ⟨_, rfl⟩
  simp only
  rw [← hso, ← hmo] at HHD2 ⊢
  simp only [Alm.cells] at HHD2 ⊢
  clear hso hmo hcx
  go_enter Tryz.func57, Tryz.ntmps57
  go_upto_region 3 with fail
  refine gen_w (fun W => Blk W w.heap.size #[.slice A l.length c, .int .i64 e, .int .i64 b, .int .i64 u, .int .i64 d, .int .i64 p, .int .i64 f, .int .i64 m, .int .i64 y, .int .i64 s, .int .i64 k] 28 ∧ Blk W (w.heap.size + 1) #[.int .i64 day, .int .i64 sy, .int .i64 sm, .int .i64 sd, .int .i64 my, .int .i64 mm, .int .i64 md, .bool mk] 78 ∧ Below w.heap.size w W) ⟨(Blk.at_ rfl).alloc _, Blk.at_ (by simp), by (repeat (first | exact Below.refl _ _ | assumption | (refine Below.alloc ?_ (by first | omega | (simp; omega) | (simp; done)) _) | (refine Below.setCell ?_ (by first | omega | (simp; omega) | (simp; done)) _) | (refine Below.drew ?_) | (refine belowN ?_ _) | (refine Below.trans ?_ (Below.mono ‹Below _ _ _› (by first | omega | (simp; omega) | (simp; done))))))⟩ ?_
  rintro V0 ⟨ga, gd, hw⟩
  go_loopw [7, 8, 9, 10] (fun ru i _ _ wr => ∃ q : Nat, q ≤ rs.length ∧ i = .int .i64 q ∧ ru = .int .i64 (lastTo (fun r => r.when_.all H) rs q) ∧ Hid (Below w.heap.size w wr) ∧ Blk wr w.heap.size #[.slice A l.length c, .int .i64 e, .int .i64 b, .int .i64 u, .int .i64 d, .int .i64 p, .int .i64 f, .int .i64 m, .int .i64 y, .int .i64 s, .int .i64 k] 28 ∧ Blk wr (w.heap.size + 1) #[.int .i64 day, .int .i64 sy, .int .i64 sm, .int .i64 sd, .int .i64 my, .int .i64 mm, .int .i64 md, .bool mk] 78) (fun _ i _ _ _ => rs.length - (intOf i).toNat)
  case atStart => exact ⟨0, by omega, rfl, rfl, hw, ga, gd⟩
  case round =>
    clear hw ga gd
    obtain ⟨q, hq, rfl, rfl, hbw, ga, gd⟩ := hrel
    have hw := hbw.out
    clear hbw
    by_cases hlt : q < rs.length
    · have hrul := HRL.out.rul _ (List.getElem_mem hlt)
      have hgood := tst_of_good (HVV.out _ (List.getElem_mem hlt))
      obtain ⟨rb, ro, rfl, hrblk, hrcell⟩ := (HRL.out.sl.below hw).at_ (k := q) (fun _ => rfl) hlt
      have HLS := Lib.hid (lastTo_succ (p := fun r : DRl => r.when_.all H) hlt)
      obtain ⟨L0, hL0⟩ : ∃ z, z = lastTo (fun r : DRl => r.when_.all H) rs q := ⟨_, rfl⟩
      rw [← hL0] at HLS ⊢
      obtain ⟨r, hre⟩ : ∃ r, r = rs[q] := ⟨_, rfl⟩
      rw [← hre] at hrcell hrul hgood HLS
      obtain ⟨ra, rc, ts, al⟩ := r
      have r0 : wr.cell? ⟨rb, ro + q * 2, none⟩ = some (.slice ra ts.length rc) := hrcell 0 _ rfl
      have htl := hrul.len
      have HTS := Lib.hid hrul.sl
      have HST := Lib.hid hrul.set
      have HGD := Lib.hid hgood
      simp only at htl HTS HST HGD HLS
      have k0 : (0 : Int) ≤ (q : Int) := by omega
      have k1 : (q : Int) < (rs.length : Int) := by omega
      clear hrcell hre hrul hgood hL0
      go_upto_region 7 with fail
      rename World => W9
      have hwz := hw.size
      go_loopw [9, 10] (fun a i wr => ∃ (j : Nat) (ap : Bool), j ≤ ts.length ∧ i = .int .i64 j ∧ a = .bool ap ∧ Hid (ap = (ts.take j).all H) ∧ Hid (Below W9.heap.size W9 wr)) (fun _ i _ => ts.length - (intOf i).toNat)
      case atStart => exact ⟨0, true, by omega, rfl, rfl, (rfl : true = _), Below.refl _ _⟩
      case round =>
        obtain ⟨j, ap, hj, rfl, rfl, HA, hb2⟩ := hrel
        have hb2 := hb2.out
        have hw2 := bl2 hw hb2
        have ga := ga.below hb2 ga.lt
        have gd := gd.below hb2 gd.lt
        have r0 := (hb2.cell (p := ⟨rb, ro + q * 2, none⟩) (by show rb < W9.heap.size; omega)).trans r0
        by_cases hjl : j < ts.length
        · obtain ⟨tb, to2, rfl, htblk, htcell⟩ := (HTS.out.below hw2).at_ (k := j) (fun _ => rfl) hjl
          have HZ2 : Hid ((ts.take (j + 1)).all H = ((ts.take j).all H && H ts[j])) := (by
            rw [List.take_succ_eq_append_getElem hjl, List.all_append]; simp : _ = _)
          have hst := HST.out _ (List.getElem_mem hjl)
          have hgt := HGD.out _ (List.getElem_mem hjl)
          obtain ⟨t, hte⟩ : ∃ t, t = ts[j] := ⟨_, rfl⟩
          rw [← hte] at htcell HZ2 hst hgt
          obtain ⟨kd, wh, st, fr, to_⟩ := t
          simp only at hst
          have t0 : wr.cell? ⟨tb, to2 + j * 5, none⟩ = some (.int .i64 kd) := htcell 0 _ rfl
          have t1 : wr.cell? ⟨tb, to2 + j * 5 + 1, none⟩ = some (.int .i64 wh) := htcell 1 _ rfl
          have t2 : wr.cell? ⟨tb, to2 + j * 5 + 2, none⟩ = some (.int .u64 st) := htcell 2 _ rfl
          have t3 : wr.cell? ⟨tb, to2 + j * 5 + 3, none⟩ = some (.int .i64 fr) := htcell 3 _ rfl
          have t4 : wr.cell? ⟨tb, to2 + j * 5 + 4, none⟩ = some (.int .i64 to_) := htcell 4 _ rfl
          have j0 : (0 : Int) ≤ (j : Int) := by omega
          have j1 : (j : Int) < (ts.length : Int) := by omega
          have HV := Lib.hid (fun W (hW : Below wr.heap.size wr W) => HHD2.out ⟨kd, wh, st, fr, to_⟩ W (bl2 hw2 hW) hst hgt)
          obtain ⟨v, hv⟩ : ∃ v, v = H ⟨kd, wh, st, fr, to_⟩ := ⟨_, rfl⟩
          rw [← hv] at HV HZ2
          (have z0 := ga.cell 0; have z1 := ga.cell 1; have z2 := ga.cell 2; have z3 := ga.cell 3; have z4 := ga.cell 4; have z5 := ga.cell 5; have z6 := ga.cell 6; have z7 := ga.cell 7; have z8 := ga.cell 8; have z9 := ga.cell 9; have z10 := ga.cell 10; simp at z0 z1 z2 z3 z4 z5 z6 z7 z8 z9 z10)
          (have y0 := gd.cell 0; have y1 := gd.cell 1; have y2 := gd.cell 2; have y3 := gd.cell 3; have y4 := gd.cell 4; have y5 := gd.cell 5; have y6 := gd.cell 6; have y7 := gd.cell 7; simp at y0 y1 y2 y3 y4 y5 y6 y7)
          clear htcell hte hst hgt hv
          go_upto_region 9 with fail
          cases ap with
          | false =>
            have HA2 : Hid (false = (ts.take (j + 1)).all H) := (by rw [HZ2.out, ← HA.out]; rfl : false = _)
            (refine wp_region_ext (by kernel_rfl) (by kernel_rfl) ?_; (repeat (go_big_quiet_step((fail)))); with_reducible refine wpQuiet_nil ?_; intro w1 hw1; have hb1 := ext_below hw1; clear hw1)
            go_wp2_with fail
            go_roundw
            case rel => exact ⟨j + 1, false, by omega, by go_num, rfl, HA2, bl2 hb2 hb1⟩
            case measure => simp [intOf]; omega
          | true =>
            have HA2 : Hid (v = (ts.take (j + 1)).all H) := (by rw [HZ2.out, ← HA.out]; simp : v = _)
            (refine wp_region_ext (by kernel_rfl) (by kernel_rfl) ?_; (repeat (go_big_quiet_step((go_at_call 89; with_reducible exact Calls.ext_of (HV.out _ (ext_below ⟨_, rfl⟩)))))); with_reducible refine wpQuiet_nil ?_; intro w1 hw1; have hb1 := ext_below hw1; clear hw1)
            go_wp2_with fail
            go_roundw
            case rel => exact ⟨j + 1, v, by omega, by go_num, rfl, HA2, bl2 hb2 hb1⟩
            case measure => simp [intOf]; omega
        · obtain rfl : j = ts.length := by omega
          have HA2 : Hid (ap = ts.all H) := (by have h := HA.out; rwa [List.take_of_length_le (Nat.le_refl _)] at h : ap = ts.all H)
          clear HA
          cases ap with
          | false =>
            have HR : Hid (lastTo (fun r : DRl => r.when_.all H) rs (q + 1) = L0) := (by rw [HLS.out, ← HA2.out]; rfl : _ = L0)
            go_wp2_with fail
            go_roundw
            case rel => exact ⟨q + 1, by omega, by go_num, by rw [HR.out], hw2, ga, gd⟩
            case measure => simp [intOf]; omega
          | true =>
            have HR : Hid (lastTo (fun r : DRl => r.when_.all H) rs (q + 1) = (q : Int)) := (by rw [HLS.out, ← HA2.out]; rfl : _ = (q : Int))
            go_wp2_with fail
            go_roundw
            case rel => exact ⟨q + 1, by omega, by go_num, by rw [HR.out], hw2, ga, gd⟩
            case measure => simp [intOf]; omega
    · obtain rfl : q = rs.length := by omega
      go_wp2_with fail
      go_ret
      exact ⟨by rw [HD.out]; rfl, hw⟩
theorem decI_bd (x : Alm) (rs : List DRl) (day : Int) : -1 ≤ decI x rs day ∧ decI x rs day < rs.length := lastTo_bd _ _ _ (Nat.le_refl _)
set_option maxRecDepth 100000 in
set_option maxHeartbeats 4000000 in
theorem rallowed_any (x : Alm) (A2 : Option Addr) (c2 : Nat) (ps : List DPs) (day : Int) (w : World) (hx : almB x = true) (d0 : 0 ≤ day) (d1 : day ≤ 1000000) (hv : ∀ p ∈ ps, ∀ r ∈ p.rules, badR x.cycles r = false) (hcx : Sl Cyc.cells 2 w w.heap.size x.a x.cycles) (hr : PsA w w.heap.size A2 ps) :
    Calls Tryz.prog 32 #[.agg x.cells.toArray, .slice A2 ps.length c2, .agg (datesV day (solI x.sol day) (moonI x.lun day))] w fun e w' => e = .returned (.bool (allB x ps day)) ∧ Below w.heap.size w w' := by
  have hlen := hr.len
  have HPS := Lib.hid hr
  have HDC := Lib.hid (fun (q : DPs) (hq : q ∈ ps) (W : World) (hW : Below w.heap.size w W) => rdecides_any x q.a q.c q.rules day W hx d0 d1 (hv q hq) ((hcx.below hW).more hW.size) (((hr.rul q hq).below hW).more hW.size))
  have HAL : Hid (∀ q : DPs, allowB x q.rules day = (decide (0 ≤ decI x q.rules day) && (match q.rules[(decI x q.rules day).toNat]? with | some r => r.allow | none => false))) := (fun _ => rfl : ∀ q : DPs, allowB x q.rules day = _)
  have HBD := Lib.hid (fun q : DPs => decI_bd x q.rules day)
  have HAB : Hid (allB x ps day = ps.all fun p => allowB x p.rules day) := (rfl : allB x ps day = _)
  obtain ⟨D, hD⟩ : ∃ D : List DRl → Int, D = fun rs => decI x rs day := ⟨_, rfl⟩
  obtain ⟨Al, hAl⟩ : ∃ Al : List DRl → Bool, Al = fun rs => allowB x rs day := ⟨_, rfl⟩
  have HDC2 : Hid (∀ (q : DPs), q ∈ ps → ∀ W, Below w.heap.size w W → Calls Tryz.prog 57 #[.agg x.cells.toArray, .slice q.a q.rules.length q.c, .agg (datesV day (solI x.sol day) (moonI x.lun day))] W fun e w' => e = .returned (.int .i64 (D q.rules)) ∧ Below W.heap.size W w') := (fun q hq W hW => by rw [hD]; exact HDC.out q hq W hW : ∀ (q : DPs), q ∈ ps → ∀ W, Below w.heap.size w W → Calls Tryz.prog 57 #[.agg x.cells.toArray, .slice q.a q.rules.length q.c, .agg (datesV day (solI x.sol day) (moonI x.lun day))] W fun e w' => e = .returned (.int .i64 (D q.rules)) ∧ Below W.heap.size W w')
  have HAL2 : Hid (∀ q : DPs, Al q.rules = (decide (0 ≤ D q.rules) && (match q.rules[(D q.rules).toNat]? with | some r => r.allow | none => false))) := (fun q => by rw [hD, hAl]; exact HAL.out q : ∀ q : DPs, Al q.rules = _)
  have HBD2 : Hid (∀ q : DPs, -1 ≤ D q.rules ∧ D q.rules < q.rules.length) := (fun q => by rw [hD]; exact HBD.out q : ∀ q : DPs, -1 ≤ D q.rules ∧ D q.rules < q.rules.length)
  have HAB2 : Hid (allB x ps day = ps.all fun p => Al p.rules) := (by rw [hAl]; exact HAB.out : allB x ps day = _)
  obtain ⟨res, hres⟩ : ∃ z, z = allB x ps day := ⟨_, rfl⟩
  rw [← hres] at HAB2 ⊢
  clear hr hv hx HDC HAL HBD HAB hD hAl hres hcx
  obtain ⟨A, c, l, ⟨e, b, u⟩, ⟨d, p, f, m, y, s, k⟩⟩ := x
  simp only at HDC2
  obtain ⟨⟨sy, sm, sd⟩, hso⟩ : ∃ z, z = solI ⟨e, b, u⟩ day := ⟨_, rfl⟩
  obtain ⟨⟨my, mm, md, mk⟩, hmo⟩ : ∃ z, z = moonI ⟨d, p, f, m, y, s, k⟩ day := ⟨_, rfl⟩
  simp only
  rw [← hso, ← hmo] at HDC2 ⊢
  simp only [Alm.cells] at HDC2 ⊢
  clear hso hmo
  go_enter Tryz.func32, Tryz.ntmps32
  go_upto_region 2 with fail
  refine gen_w (fun W => Blk W w.heap.size #[.slice A l.length c, .int .i64 e, .int .i64 b, .int .i64 u, .int .i64 d, .int .i64 p, .int .i64 f, .int .i64 m, .int .i64 y, .int .i64 s, .int .i64 k] 28 ∧ Blk W (w.heap.size + 1) #[.int .i64 day, .int .i64 sy, .int .i64 sm, .int .i64 sd, .int .i64 my, .int .i64 mm, .int .i64 md, .bool mk] 78 ∧ Below w.heap.size w W) ⟨(Blk.at_ rfl).alloc _, Blk.at_ (by simp), by (repeat (first | exact Below.refl _ _ | assumption | (refine Below.alloc ?_ (by first | omega | (simp; omega) | (simp; done)) _) | (refine Below.setCell ?_ (by first | omega | (simp; omega) | (simp; done)) _) | (refine Below.drew ?_) | (refine belowN ?_ _) | (refine Below.trans ?_ (Below.mono ‹Below _ _ _› (by first | omega | (simp; omega) | (simp; done))))))⟩ ?_
  rintro V0 ⟨ga, gd, hw⟩
  go_loopw [7, 8] (fun i _ wr => ∃ q : Nat, q ≤ ps.length ∧ i = .int .i64 q ∧ Hid (res = (ps.drop q).all fun p => Al p.rules) ∧ Hid (Below w.heap.size w wr) ∧ Blk wr w.heap.size #[.slice A l.length c, .int .i64 e, .int .i64 b, .int .i64 u, .int .i64 d, .int .i64 p, .int .i64 f, .int .i64 m, .int .i64 y, .int .i64 s, .int .i64 k] 28 ∧ Blk wr (w.heap.size + 1) #[.int .i64 day, .int .i64 sy, .int .i64 sm, .int .i64 sd, .int .i64 my, .int .i64 mm, .int .i64 md, .bool mk] 78) (fun i _ _ => ps.length - (intOf i).toNat)
  case atStart => exact ⟨0, by omega, rfl, HAB2.out, hw, ga, gd⟩
  case round =>
    clear hw ga gd
    obtain ⟨q, hq, rfl, HRS, hbw, ga, gd⟩ := hrel
    have hw := hbw.out
    clear hbw
    by_cases hlt : q < ps.length
    · have hrul := HPS.out.rul _ (List.getElem_mem hlt)
      obtain ⟨rb, ro, rfl, hrblk, hrcell⟩ := (HPS.out.sl.below hw).at_ (k := q) (fun _ => rfl) hlt
      have HZ : Hid (ps.drop q = ps[q] :: ps.drop (q + 1)) := (List.drop_eq_getElem_cons hlt : _ = _)
      have HDQ := Lib.hid (HDC2.out _ (List.getElem_mem hlt))
      have HAQ := Lib.hid (HAL2.out ps[q])
      have hbd := HBD2.out ps[q]
      obtain ⟨r, hre⟩ : ∃ r, r = ps[q] := ⟨_, rfl⟩
      rw [← hre] at hrcell hrul HZ HDQ HAQ hbd
      obtain ⟨pa, pc, rs⟩ := r
      have r0 : wr.cell? ⟨rb, ro + q, none⟩ = some (.slice pa rs.length pc) := by have := hrcell 0 _ rfl; simpa using this
      simp only at HDQ HAQ hbd hrul
      have HRU := Lib.hid hrul
      have HR1 : Hid (res = (Al rs && (ps.drop (q + 1)).all fun p => Al p.rules)) := (by rw [HRS.out, HZ.out]; rfl : res = _)
      obtain ⟨dq, hdq⟩ : ∃ z, z = D rs := ⟨_, rfl⟩
      rw [← hdq] at HDQ HAQ hbd
      have k0 : (0 : Int) ≤ (q : Int) := by omega
      have k1 : (q : Int) < (ps.length : Int) := by omega
      have HDW := Lib.hid (fun W (hW : Below wr.heap.size wr W) => HDQ.out W (bl2 hw hW))
      clear hrcell hre hrul hdq HZ HRS
      (have z0 := ga.cell 0; have z1 := ga.cell 1; have z2 := ga.cell 2; have z3 := ga.cell 3; have z4 := ga.cell 4; have z5 := ga.cell 5; have z6 := ga.cell 6; have z7 := ga.cell 7; have z8 := ga.cell 8; have z9 := ga.cell 9; have z10 := ga.cell 10; simp at z0 z1 z2 z3 z4 z5 z6 z7 z8 z9 z10)
      (have y0 := gd.cell 0; have y1 := gd.cell 1; have y2 := gd.cell 2; have y3 := gd.cell 3; have y4 := gd.cell 4; have y5 := gd.cell 5; have y6 := gd.cell 6; have y7 := gd.cell 7; simp at y0 y1 y2 y3 y4 y5 y6 y7)
      go_upto_region 4 with fail
      (refine wp_region_ext (by kernel_rfl) (by kernel_rfl) ?_; (repeat (go_big_quiet_step((go_at_call 57; with_reducible exact Calls.ext_of (HDW.out _ (ext_below ⟨_, rfl⟩)))))); with_reducible refine wpQuiet_nil ?_; intro w1 hw1; have hb1 := ext_below hw1; clear hw1)
      have hw2 := bl2 hw hb1
      have ga := ga.below hb1 ga.lt
      have gd := gd.below hb1 gd.lt
      have r0 := (hb1.cell (p := ⟨rb, ro + q, none⟩) (by have := hw.size; show rb < wr.heap.size; omega)).trans r0
      by_cases hn : dq < 0
      · have t1 : decide (dq < 0) = true := by simpa using hn
        have HT : Hid (res = false) := (by rw [HR1.out, HAQ.out, decide_eq_false (by omega)]; rfl : res = false)
        go_wp2_with fail
        go_ret
        exact ⟨ret_bool HT.out.symm, hw2⟩
      · have t1 : decide (dq < 0) = false := by simpa using hn
        obtain ⟨n, rfl⟩ := Int.eq_ofNat_of_zero_le (show 0 ≤ dq by omega)
        have hnl : n < rs.length := by omega
        obtain ⟨ub, uo, rfl, hublk, hucell⟩ := (HRU.out.sl.below hw2).at_ (k := n) (fun _ => rfl) hnl
        have HAQ2 : Hid (Al rs = rs[n].allow) := (by
          rw [HAQ.out, decide_eq_true (by omega), Int.toNat_natCast, List.getElem?_eq_getElem hnl]; rfl : Al rs = _)
        obtain ⟨al, hal⟩ : ∃ z, z = rs[n].allow := ⟨_, rfl⟩
        rw [← hal] at HAQ2
        have u1 : w1.cell? ⟨ub, uo + n * 2 + 1, none⟩ = some (.bool al) := by rw [hal]; exact hucell 1 _ rfl
        have n0 : (0 : Int) ≤ (n : Int) := by omega
        have n1 : (n : Int) < (rs.length : Int) := by omega
        clear hucell hal HAQ
        cases al with
        | false =>
          have HT : Hid (res = false) := (by rw [HR1.out, HAQ2.out]; rfl : res = false)
          go_wp2_with fail
          go_ret
          exact ⟨ret_bool HT.out.symm, hw2⟩
        | true =>
          have HR2 : Hid (res = (ps.drop (q + 1)).all fun p => Al p.rules) := (by rw [HR1.out, HAQ2.out]; rfl : res = _)
          go_wp2_with fail
          go_roundw
          case rel => exact ⟨q + 1, by omega, by go_num, HR2, hw2, ga, gd⟩
          case measure => simp [intOf]; omega
    · obtain rfl : q = ps.length := by omega
      have HT : Hid (res = true) := (by rw [HRS.out, List.drop_eq_nil_of_le (Nat.le_refl _)]; rfl : res = true)
      go_wp2_with fail
      go_ret
      exact ⟨ret_bool HT.out.symm, hw⟩
end Go.Proofs.YtfbnllmmoaialaaGreat
namespace Go.Proofs.YtfbnllmmoaialaaGreat
open Go.RowKit

theorem daysN_len (x : Alm) (ps : List DPs) (fr : Int) (n : Nat) : (daysN x ps fr n).length ≤ n := by
  unfold daysN
  exact Nat.le_trans (List.length_filter_le _ _) (by simp)
/-- what holds at the head of the loop over days -/
def DyRel (x : Alm) (ps : List DPs) (fr : Int) (w : World) (n : Nat) (pl i : Value) (wr : World) : Prop := ∃ (k : Nat) (Ap : Option Addr) (cp : Nat), k ≤ n ∧ i = .int .i64 (fr + k) ∧ pl = .slice Ap (daysN x ps fr k).length cp ∧ Hid (wr.ownsRow (w.heap.size + 1) 3 1 pl (daysN x ps fr k).length ((daysN x ps fr k).map (Value.int .i64))) ∧ Hid (Below w.heap.size w wr) ∧ Blk wr w.heap.size x.cells.toArray 28
set_option maxRecDepth 100000 in
set_option maxHeartbeats 4000000 in
theorem rdays_any (x : Alm) (A2 : Option Addr) (c2 : Nat) (ps : List DPs) (fr to_ : Int) (w : World) (hx : almB x = true) (h0 : 0 ≤ fr) (hto : to_ ≤ 1000000) (hle : fr ≤ to_ + 1) (hsp : to_ - fr ≤ 4000) (hv : ∀ p ∈ ps, ∀ r ∈ p.rules, badR x.cycles r = false) (hcx : Sl Cyc.cells 2 w w.heap.size x.a x.cycles) (hr : PsA w w.heap.size A2 ps) :
    Calls Tryz.prog 13 #[.agg x.cells.toArray, .slice A2 ps.length c2, .int .i64 fr, .int .i64 to_] w fun e w' => ∃ A c, e = .returned (.slice A (daysL x ps fr to_).length c) ∧ Sl intCell 1 w' w'.heap.size A (daysL x ps fr to_) ∧ (A = none → c = 0) ∧ Below w.heap.size w w' := by
  have hlen := hr.len
  have HOF := Lib.hid (fun day (h1 : 0 ≤ day) (h2 : day ≤ 1000000) W => rof_any x day W hx h1 h2)
  have HAL := Lib.hid (fun day (h1 : 0 ≤ day) (h2 : day ≤ 1000000) W (hW : Below w.heap.size w W) => rallowed_any x A2 c2 ps day W hx h1 h2 hv ((hcx.below hW).more hW.size) ((hr.below hW).more hW.size))
  obtain ⟨n, hn⟩ : ∃ n : Nat, n = (to_ + 1 - fr).toNat := ⟨_, rfl⟩
  have HN := Lib.hid hn
  have hnI : (n : Int) = to_ + 1 - fr := by omega
  have HSU := Lib.hid (daysN_succ x ps fr)
  have HDL := Lib.hid (daysN_len x ps fr)
  have HD : Hid (daysL x ps fr to_ = daysN x ps fr n) := (by rw [hn]; rfl : daysL x ps fr to_ = _)
  have HNI := Lib.hid hnI
  clear hr hv hx hn hcx hnI
  obtain ⟨i0, hi, iz0, iz1, iz2⟩ := info_parts infoInt
  obtain ⟨A, c, l, ⟨e, b, u⟩, ⟨d, p, f, m, y, s, k⟩⟩ := x
  simp only [Alm.cells] at HOF HAL ⊢
  go_enter Tryz.func13, Tryz.ntmps13
  go_upto_region 1 with fail
  refine gen_w (fun W => Blk W w.heap.size #[.slice A l.length c, .int .i64 e, .int .i64 b, .int .i64 u, .int .i64 d, .int .i64 p, .int .i64 f, .int .i64 m, .int .i64 y, .int .i64 s, .int .i64 k] 28 ∧ Below w.heap.size w W) ⟨Blk.at_ rfl, by (repeat (first | exact Below.refl _ _ | assumption | (refine Below.alloc ?_ (by first | omega | (simp; omega) | (simp; done)) _) | (refine Below.setCell ?_ (by first | omega | (simp; omega) | (simp; done)) _) | (refine Below.drew ?_) | (refine belowN ?_ _) | (refine Below.trans ?_ (Below.mono ‹Below _ _ _› (by first | omega | (simp; omega) | (simp; done))))))⟩ ?_
  rintro V0 ⟨ga, hw⟩
  have hV0 : w.heap.size < V0.heap.size := ga.lt
  go_wp2_with fail
  go_loopw [9, 10] (fun pl i wr => DyRel ⟨A, c, l, ⟨e, b, u⟩, ⟨d, p, f, m, y, s, k⟩⟩ ps fr w n pl i wr) (fun _ i _ => (to_ + 1 - intOf i).toNat)
  case atStart =>
    refine ⟨0, _, _, by omega, by simp, rfl, ?_, hw.alloc hw.size _, ga.alloc _⟩
    exact World.ownsRow_made (e := 3) (size := 1) V0 #[] 0 (base := w.heap.size + 1) (by omega) (by simp) (by simp)
  case round =>
    clear hw ga hV0
    obtain ⟨q, Ap, cp, hq, rfl, rfl, HOW, hbw, ga⟩ := hrel
    have hw := hbw.out
    clear hbw
    have hdl := HDL.out q
    by_cases hlt : q < n
    · have hlt2 : fr + (q : Int) ≤ to_ := by have := HNI.out; omega
      have t1 : decide (fr + (q : Int) ≤ to_) = true := by simpa using hlt2
      have HO := Lib.hid (HOF.out (fr + q) (by omega) (by omega))
      have HA := Lib.hid (fun W (hW : Below wr.heap.size wr W) => HAL.out (fr + q) (by omega) (by omega) W (bl2 hw hW))
      have HS := Lib.hid (HSU.out q)
      obtain ⟨av, hav⟩ : ∃ v, v = allB ⟨A, c, l, ⟨e, b, u⟩, ⟨d, p, f, m, y, s, k⟩⟩ ps (fr + q) := ⟨_, rfl⟩
      rw [← hav] at HA HS
      obtain ⟨L, hL⟩ : ∃ L, L = daysN ⟨A, c, l, ⟨e, b, u⟩, ⟨d, p, f, m, y, s, k⟩⟩ ps fr q := ⟨_, rfl⟩
      rw [← hL] at HOW HS hdl ⊢
      have ga' : Blk wr w.heap.size #[.slice A l.length c, .int .i64 e, .int .i64 b, .int .i64 u, .int .i64 d, .int .i64 p, .int .i64 f, .int .i64 m, .int .i64 y, .int .i64 s, .int .i64 k] 28 := ga
      clear ga hav hL
      have ga := ga'
      clear ga'
      have z0 := ga.cell 0; have z1 := ga.cell 1; have z2 := ga.cell 2; have z3 := ga.cell 3; have z4 := ga.cell 4; have z5 := ga.cell 5; have z6 := ga.cell 6; have z7 := ga.cell 7; have z8 := ga.cell 8; have z9 := ga.cell 9; have z10 := ga.cell 10
      simp at z0 z1 z2 z3 z4 z5 z6 z7 z8 z9 z10
      have v1 : IntKind.i64.wrap (fr + (q : Int) + 1) = fr + (q : Int) + 1 := IntWalk.i64_in _ ⟨by omega, by omega⟩
      go_upto_region 5 with fail
      (refine wp_region_ext (by kernel_rfl) (by kernel_rfl) ?_; (repeat (go_big_quiet_step((first | (go_at_call 33; with_reducible exact Calls.ext_of (HO.out _)) | (go_at_call 32; with_reducible exact Calls.ext_of (HA.out _ (ext_below ⟨_, rfl⟩))))))); with_reducible refine wpQuiet_nil ?_; intro w1 hw1; have hb1 := ext_below hw1; clear hw1)
      have HBW : Hid (Below w.heap.size w w1) := (bl2 hw hb1 : Below w.heap.size w w1)
      have HGA : Hid (Blk w1 w.heap.size #[.slice A l.length c, .int .i64 e, .int .i64 b, .int .i64 u, .int .i64 d, .int .i64 p, .int .i64 f, .int .i64 m, .int .i64 y, .int .i64 s, .int .i64 k] 28) := (ga.below hb1 ga.lt : Blk w1 w.heap.size #[.slice A l.length c, .int .i64 e, .int .i64 b, .int .i64 u, .int .i64 d, .int .i64 p, .int .i64 f, .int .i64 m, .int .i64 y, .int .i64 s, .int .i64 k] 28)
      have HO1 : Hid (w1.ownsRow (w.heap.size + 1) 3 1 (.slice Ap L.length cp) L.length (L.map (Value.int .i64))) := HOW.out.kept (grown_none hb1) (by cases h : (Value.slice Ap L.length cp).ownBlock <;> simp)
      have hV1 : w.heap.size < w1.heap.size := HGA.out.lt
      clear hw hb1 ga z0 z1 z2 z3 z4 z5 z6 z7 z8 z9 z10 HO HA HOW
      cases av with
      | false =>
        have HS2 : Hid (daysN ⟨A, c, l, ⟨e, b, u⟩, ⟨d, p, f, m, y, s, k⟩⟩ ps fr (q + 1) = L) := (by rw [HS.out]; simp : _ = L)
        go_wp2_with fail
        go_roundw
        case rel => exact ⟨q + 1, Ap, cp, by omega, by rw [show fr + ((q + 1 : Nat) : Int) = fr + (q : Int) + 1 by omega], by rw [HS2.out], by rw [HS2.out]; exact HO1, HBW, HGA.out⟩
        case measure => simp only [intOf]; omega
      | true =>
        have HS2 : Hid (daysN ⟨A, c, l, ⟨e, b, u⟩, ⟨d, p, f, m, y, s, k⟩⟩ ps fr (q + 1) = L ++ [fr + (q : Int)]) := (by rw [HS.out]; simp : _ = _)
        obtain ⟨dy, hdy⟩ : ∃ z, z = fr + (q : Int) := ⟨_, rfl⟩
        have HDY := Lib.hid hdy
        rw [← hdy] at HS2 v1 ⊢
        clear hdy
        go_wp2_with (at_builtin; refine wpList_append_own _ rfl _ _ 42 rfl (w.heap.size + 1) 3 i0 (.int .i64 0) 1 8 uInts hi iz0 iz1 iz2 rfl (by decide) _ _ _ rfl (HO1.out.alloc _) ⟨w1.heap.size, 0, none⟩ 1 1 [.int .i64 dy] rfl rfl (cell_one_new _ _ _) (by simp [Value.oneCell']) (by unfold maxLen; omega) (by omega) (by simp; omega) ?_; intro v' w2 hown2 hgrow _; refine Hid.out ?_; obtain ⟨Ap', cp', rfl⟩ := own_slice hown2; have HO2 := Lib.hid hown2; have HB2 : Hid (Below w.heap.size w w2) := (HBW.out.alloc HBW.out.size _).grown hgrow (by have := HBW.out.size; simp; omega) (fun g hg => by have := (HO1.out.lt g hg).1; omega); have HG2 : Hid (Blk w2 w.heap.size #[.slice A l.length c, .int .i64 e, .int .i64 b, .int .i64 u, .int .i64 d, .int .i64 p, .int .i64 f, .int .i64 m, .int .i64 y, .int .i64 s, .int .i64 k] 28) := (HGA.out.alloc _).grown hgrow (fun hg => by have := (HO1.out.lt _ hg.symm).1; omega); clear hown2 hgrow; refine Lib.hid ?_)
        go_roundw
        case rel =>
          refine ⟨q + 1, Ap', cp', by omega, by rw [show fr + ((q + 1 : Nat) : Int) = fr + (q : Int) + 1 by omega, ← HDY.out], by rw [HS2.out]; simp, ?_, HB2, HG2.out⟩
          have h2 := HO2.out
          rw [HS2.out]
          show World.ownsRow _ _ _ _ _ _ _
          rw [List.length_append, List.length_singleton, List.map_append]
          exact h2
        case measure => have := HDY.out; simp only [intOf]; omega
    · obtain rfl : q = n := by omega
      have t1 : decide (fr + (q : Int) ≤ to_) = false := by have := HNI.out; simp; omega
      obtain ⟨A9, c9, e9, hs9, hz9⟩ := sl_of_ownN (f := intCell) (l := daysN ⟨A, c, l, ⟨e, b, u⟩, ⟨d, p, f, m, y, s, k⟩⟩ ps fr q) (by rw [flat_int]; exact HOW.out)
      have e9' : Ap = A9 ∧ cp = c9 := by simpa using e9
      obtain ⟨rfl, rfl⟩ := e9'
      have HS9 := Lib.hid hs9; have HZ9 := Lib.hid hz9
      clear HOW e9 hs9 hz9
      go_wp2_with fail
      go_ret
      exact ⟨Ap, cp, by rw [HD.out]; rfl, by rw [HD.out]; exact HS9.out, HZ9.out, hw⟩
end Go.Proofs.YtfbnllmmoaialaaGreat
namespace Go.Proofs.YtfbnllmmoaialaaGreat
open Go.RowKit

theorem countV {x : Alm} {rs : List DRl} {fr to_ n E : Int} (h : countR x rs fr to_ = (n, E)) (hl : x.cycles.length ≤ 1000000) (A : Option Addr) (c : Nat) (A3 : Option Addr) (k3 : Nat) (l' : List DRl) (W : World) (hs : Sl Cyc.cells 2 W W.heap.size A x.cycles) (hr : RlsAt W W.heap.size A3 l') (hpl : l'.map DRl.pl = rs.map DRl.pl) :
    Calls Tryz.prog 10 #[.agg (Alm.cells ⟨A, c, x.cycles, x.sol, x.lun⟩).toArray, .slice A3 l'.length k3, .int .i64 fr, .int .i64 to_] W fun e w' => e = .returned (.tuple #[.int .i64 n, .int .i64 E]) ∧ Below W.heap.size W w' := by
  have h1 := countF_any (x.at_ A c) A3 k3 l' fr to_ W hl hs hr
  rw [countR_cong hpl, h] at h1
  exact h1
theorem append_rls {W w5 : World} {base : Nat} {A3 : Option Addr} {q3 gg cap : Nat} {l' : List DRl} {v : Bool} (hown : W.ownsRow base 48 2 (.slice A3 l'.length q3) l'.length (flat DRl.cells l')) (hrow : ∀ r ∈ l', RowD W r)
    (hown5 : w5.ownsRow base 48 2 (.slice (some ⟨gg, 0, none⟩) (l'.length + 1) cap) (l'.length + 1) (flat DRl.cells l' ++ [.slice none 0 0, .bool v])) (hgrow : W.grownBy w5 (Value.slice A3 l'.length q3).ownBlock) (hl : l'.length ≤ 100) : RlsAt w5 w5.heap.size (some ⟨gg, 0, none⟩) (l' ++ [lastR v]) := by
  have e1 : flat DRl.cells (l' ++ [lastR v]) = flat DRl.cells l' ++ [.slice none 0 0, .bool v] := by simp [flat, DRl.cells]
  have e2 : (l' ++ [lastR v]).length = l'.length + 1 := by simp
  have h5 : w5.ownsRow base 48 2 (.slice (some ⟨gg, 0, none⟩) (l' ++ [lastR v]).length cap) (l' ++ [lastR v]).length (flat DRl.cells (l' ++ [lastR v])) := by rw [e1, e2]; exact hown5
  obtain ⟨A, c, e, hs⟩ := Sl.of_own h5
  have e3 : some (⟨gg, 0, none⟩ : Addr) = A ∧ cap = c := by simpa using e
  refine ⟨by rw [e2]; omega, by rw [e3.1]; exact hs, fun r hr => ?_⟩
  rcases List.mem_append.1 hr with h | h
  · exact ((hrow r h).grown hgrow fun v' ⟨n', xs', h'⟩ => ownsRow_apart h' hown (by decide)).rul
  · rw [List.mem_singleton.1 h]
    exact ⟨by simp, fun t ht => by simp at ht, sl_nil⟩
theorem countL {x : Alm} {rs : List DRl} {fr to_ n E : Int} {v : Bool} (h : countR x (rs ++ [lastR v]) fr to_ = (n, E)) (hl : x.cycles.length ≤ 1000000) (A : Option Addr) (c : Nat) (gg cap : Nat) (l' : List DRl) (W : World) (hs : Sl Cyc.cells 2 W W.heap.size A x.cycles) (hr : RlsAt W W.heap.size (some ⟨gg, 0, none⟩) (l' ++ [lastR v])) (hpl : l'.map DRl.pl = rs.map DRl.pl) :
    Calls Tryz.prog 10 #[.agg (Alm.cells ⟨A, c, x.cycles, x.sol, x.lun⟩).toArray, .slice (some ⟨gg, 0, none⟩) (l'.length + 1) cap, .int .i64 fr, .int .i64 to_] W fun e w' => e = .returned (.tuple #[.int .i64 n, .int .i64 E]) ∧ Below W.heap.size W w' := by
  have h1 := countV h hl A c (some ⟨gg, 0, none⟩) cap (l' ++ [lastR v]) W hs hr (by rw [List.map_append, List.map_append, hpl])
  rw [List.length_append, List.length_singleton] at h1
  exact h1
end Go.Proofs.YtfbnllmmoaialaaGreat

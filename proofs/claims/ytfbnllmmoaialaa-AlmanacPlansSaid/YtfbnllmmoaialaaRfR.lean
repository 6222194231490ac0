/- almanac: the reference's Plan. -/
import Derived.Test.YtfbnllmmoaialaaZ30RfO
namespace Go.Proofs.Ytfbnllmmoaialaa
open Go.RowKit

theorem uIntsR : Try.prog.underlying 38 = some (.slice 3) := by kernel_rfl
theorem own_stepR {W w1 : World} {base n size : Nat} {e : TypeId} {v : Value} {xs : List Value} (h : W.ownsRow base e size v n xs) (h1 : Below W.heap.size W w1) : w1.ownsRow base e size v n xs := h.kept (grown_none h1) (by cases hv : v.ownBlock <;> simp)
def RetPlan (r : Option (List Int)) (w : World) (e : Ending) (w' : World) : Prop := match r with
  | some p => ∃ A c, e = .returned (.tuple #[.slice A p.length c, .bool true]) ∧ Sl intCell 1 w' w'.heap.size A p ∧ (A = none → c = 0) ∧ Below w.heap.size w w'
  | none => e = .returned (.tuple #[.slice none 0 0, .bool false]) ∧ Below w.heap.size w w'
theorem RetPlan.below {r : Option (List Int)} {w w' : World} {e : Ending} (h : RetPlan r w e w') : Below w.heap.size w w' := by
  cases r with
  | some p => obtain ⟨_, _, _, _, _, h⟩ := h; exact h
  | none => exact h.2
/-- between two rounds over the days: no day taken yet, or one -/
def RpRel (l : List Int) (g0 g1 : Int) (n : Nat) (R : Option (List Int)) (acc : List Int) (Ap : Option Addr) (cp : Nat) (lz : Int) (ld : Option Int) (qq : Nat) (W9 : World) (out la fo i : Value) (wr : World) : Prop :=
  (∃ kk : Nat, kk ≤ n ∧ out = .slice Ap acc.length cp ∧ la = .int .i64 lz ∧ fo = .bool false ∧ i = .int .i64 (kk : Int) ∧ Hid (wr.ownsRow W9.heap.size 3 1 (.slice Ap acc.length cp) acc.length (acc.map (Value.int .i64))) ∧ Hid (Below W9.heap.size W9 wr) ∧ Hid (R = (refG g0 g1 (l.drop kk) ld (qq + 1)).map (acc ++ ·))) ∨
  (∃ r : Nat, r < n ∧ ∃ (dr : Int) (Aq : Option Addr) (cq : Nat), out = .slice Aq (acc.length + 1) cq ∧ la = .int .i64 (r : Int) ∧ fo = .bool true ∧ i = .int .i64 ((r : Int) + 1) ∧ Hid (l[r]? = some dr) ∧ Hid (wr.ownsRow W9.heap.size 3 1 (.slice Aq (acc.length + 1) cq) (acc.length + 1) ((acc ++ [dr]).map (Value.int .i64))) ∧ Hid (Below W9.heap.size W9 wr) ∧ Hid (R = (refG g0 g1 (l.drop (r + 1)) (some dr) qq).map ((acc ++ [dr]) ++ ·)))
set_option maxRecDepth 100000 in
set_option maxHeartbeats 16000000 in
theorem rplan_any (A : Option Addr) (c : Nat) (l : List Int) (g0 g1 T : Int) (w : World) (hl : l.length ≤ 4001) (hb : ∀ d ∈ l, 0 ≤ d ∧ d ≤ 1000000) (hT1 : 1 ≤ T) (hT2 : T ≤ 60) (hs : Sl intCell 1 w w.heap.size A l) :
    Calls Try.prog 23 #[.slice A l.length c, .agg #[.int .i64 g0, .int .i64 g1], .int .i64 T] w (RetPlan (refG g0 g1 l none T.toNat) w) := by
  obtain ⟨ib, hib, ibz, ibs, iby⟩ := info_parts infoBoolR
  obtain ⟨i0, hi, iz0, iz1, iz2⟩ := info_parts infoBoolsR
  obtain ⟨i5, hi5, iw0, iw1, iw2⟩ := info_parts infoInt
  have HS := Lib.hid hs; have HB := Lib.hid hb
  obtain ⟨Tn, hTn⟩ := Int.eq_ofNat_of_zero_le (show 0 ≤ T by omega)
  obtain ⟨R, hR⟩ : ∃ R, R = refG g0 g1 l none T.toNat := ⟨_, rfl⟩
  rw [← hR]
  have HR : Hid (R = refG g0 g1 l none Tn) := (by rw [hR, hTn, Int.toNat_natCast] : R = refG g0 g1 l none Tn)
  subst hTn
  clear hs hb hR
  obtain ⟨n, hn⟩ : ∃ n, n = l.length := ⟨_, rfl⟩
  have HNL := Lib.hid hn
  rw [← hn] at hl ⊢
  clear hn
  go_enter Try.func23, Try.ntmps23
  go_upto_region 1 with fail
  refine gen_w (fun W => Blk W w.heap.size #[.int .i64 g0, .int .i64 g1] 30 ∧ Below w.heap.size w W) ⟨Blk.at_ rfl, by (repeat (first | exact Below.refl _ _ | assumption | (refine Below.alloc ?_ (by first | omega | (simp; omega) | (simp; done)) _) | (refine Below.setCell ?_ (by first | omega | (simp; omega) | (simp; done)) _) | (refine Below.drew ?_) | (refine belowN ?_ _) | (refine Below.trans ?_ (Below.mono ‹Below _ _ _› (by first | omega | (simp; omega) | (simp; done))))))⟩ ?_
  rintro W0 ⟨hg0, hw0⟩
  have HG0 := Lib.hid hg0; have HW0 := Lib.hid hw0
  have hgl := hg0.lt
  clear hg0 hw0
  go_upto_region 2 with (at_make; refine wpList_make_blk _ rfl _ _ 113 rfl 4 ib (.bool false) uBoolsR hib ibz ibs rfl .i64 .i64 _ _ n rfl rfl rfl rfl (by rw [iby]; omega) (by unfold maxLen; omega) ?_; intro W1 gR hb1; have HAR : Hid (ArrB W1 W0.heap.size (mixB (fun _ => true) n 0)) := (by rw [mixB_zero]; show Blk _ _ _ _; rw [List.map_replicate]; exact gR : ArrB W1 W0.heap.size (mixB (fun _ => true) n 0)); have HW1 := Lib.hid (bl2 HW0.out hb1); have HG1 := Lib.hid (HG0.out.below hb1 hgl); have hrl : W0.heap.size < W1.heap.size := HAR.out.lt; clear gR hb1; refine Lib.hid ?_)
  obtain ⟨r0, hr0⟩ : ∃ z, z = W0.heap.size := ⟨_, rfl⟩
  obtain ⟨cb, hcb⟩ : ∃ z, z = W1.heap.size := ⟨_, rfl⟩
  rw [← hr0] at hrl
  rw [← hcb] at hrl
  rw [← hr0, ← hcb]
  have hr00 : w.heap.size < r0 := by omega
  refine gen_w (fun W => Blk W w.heap.size #[.int .i64 g0, .int .i64 g1] 30 ∧ Below w.heap.size w W ∧ ArrB W r0 (mixB (fun _ => true) n 0) ∧ Blk W cb #[.slice (some ⟨r0, 0, none⟩) n n] 113) ⟨HG1.out.alloc _, bla HW1.out, by rw [hr0]; exact HAR.out.alloc _, Blk.at_ hcb⟩ ?_
  clear HG0 HW0 HAR HW1 HG1 hr0 hcb hgl
  rintro W2 ⟨hg2, hw2, ha2, hc2⟩
  have HG2 := Lib.hid hg2; have HW2 := Lib.hid hw2; have HA2 := Lib.hid ha2; have HC2 := Lib.hid hc2
  clear hg2 hw2 ha2 hc2
  go_wp2_with fail
  --T l1
  go_loopw [9] (fun i wr => ∃ j : Nat, j ≤ n ∧ i = .int .i64 (j : Int) ∧ Hid (W2.grownBy wr (some r0)) ∧ Hid (ArrB wr r0 (mixB (fun _ => true) n j))) (fun i _ => n - (intOf i).toNat)
  case atStart => exact ⟨0, by omega, rfl, grownZ _ (Below.refl _ _), HA2.out⟩
  case round =>
    obtain ⟨j, hj, rfl, hg, ha⟩ := hrel
    by_cases hlt : j < n
    · --D<l1
      have t1 : decide ((j : Int) < (n : Int)) = true := decide_eq_true (by omega)
      have c0 := (HC2.out.grown hg.out (by intro e; have := Option.some.inj e; omega)).cell 0
      simp at c0
      have cm := ha.out.cell_ (mixB_get (fun _ => true) hlt)
      have fm := ha.out.free j
      have j0 : (0 : Int) ≤ (j : Int) := by omega
      have j1 : (j : Int) < (n : Int) := by omega
      have HA3 : Hid (ArrB (wr.setCell ⟨r0, j, none⟩ (.bool true)) r0 (mixB (fun _ => true) n (j + 1))) := (by have h := ha.out.put j true; have h2 : (mixB (fun _ => true) n j).set j true = mixB (fun _ => true) n (j + 1) := mixB_set (fun _ => true) hlt; rwa [h2] at h)
      go_wp2_with fail
      go_roundw
      case rel => exact ⟨j + 1, by omega, by go_num, grown_setZ hg.out _, HA3⟩
      case measure => simp [intOf]; omega
      --D>
    · obtain rfl : n = j := by omega
      have hT0 : RpT l g0 g1 (w.heap.size + 1) 1 (.slice (some ⟨cb, 0, none⟩) 1 1) [r0] wr := RpT.one (by rw [← HNL.out]; exact HC2.out.grown hg.out (by intro e; have := Option.some.inj e; omega)) (by omega) (by rw [← HNL.out]; exact ha.out)
      have HT0 := Lib.hid hT0
      have HG3 := Lib.hid (HG2.out.grown hg.out (by intro e; have := Option.some.inj e; omega))
      have HW3 := Lib.hid (below_trans_grown HW2.out hg.out (by omega))
      clear hT0 HG2 HW2 HA2 HC2 hg ha hlt hj hrl
      go_upto_region 7 with fail
      --T l2
      go_loopw [8, 10, 11, 12, 13] (fun v nn _ _ _ wr => ∃ (m : Nat) (rows : List Nat), 1 ≤ m ∧ m ≤ Tn ∧ nn = .int .i64 (m : Int) ∧ Hid (RpT l g0 g1 (w.heap.size + 1) m v rows wr) ∧ Hid (Blk wr w.heap.size #[.int .i64 g0, .int .i64 g1] 30) ∧ Hid (Below w.heap.size w wr)) (fun _ nn _ _ _ _ => Tn - (intOf nn).toNat)
      case atStart => exact ⟨1, [r0], by omega, by omega, rfl, HT0, HG3, HW3⟩
      case round =>
        clear HT0 HG3 HW3
        rename World => W9
        obtain ⟨m, rows, hm1, hm2, rfl, HT, HG, HW⟩ := hrel
        by_cases hlt : m < Tn
        · --D<l2
          have t1 : decide ((m : Int) < (Tn : Int)) = true := decide_eq_true (by omega)
          obtain ⟨Ac, cc, hv⟩ := own_slice HT.out.own
          subst hv
          have hgl := HG.out.lt
          go_upto_region 10 with (at_make; refine wpList_make_blk _ rfl _ _ 113 rfl 4 ib (.bool false) uBoolsR hib ibz ibs rfl .i64 .i64 _ _ n rfl rfl rfl rfl (by rw [iby]; omega) (by unfold maxLen; omega) ?_; intro W1 gR hb1; have HAR : Hid (ArrB W1 W9.heap.size (mixB (canF g0 g1 l m) n 0)) := (by rw [mixB_zero]; show Blk _ _ _ _; rw [List.map_replicate]; exact gR : ArrB W1 W9.heap.size (mixB (canF g0 g1 l m) n 0)); have HWg : Hid (W9.grownBy W1 (some W9.heap.size)) := grownZ _ hb1; clear gR hb1; refine Lib.hid ?_)
          obtain ⟨rn, hrn⟩ : ∃ z, z = W9.heap.size := ⟨_, rfl⟩
          rw [← hrn] at HAR HWg ⊢
          have hrn1 : rn ≤ W9.heap.size := by omega
          have hrn2 : W9.heap.size ≤ rn := by omega
          clear hrn
          have hgr : w.heap.size < rn := by omega
          go_wp2_with fail
          --T l3
          go_loopw [12, 13] (fun i _ wr => ∃ j : Nat, j ≤ n ∧ i = .int .i64 (j : Int) ∧ Hid (W9.grownBy wr (some rn)) ∧ Hid (ArrB wr rn (mixB (canF g0 g1 l m) n j))) (fun i _ _ => n - (intOf i).toNat)
          case atStart => exact ⟨0, by omega, rfl, HWg, HAR⟩
          case round =>
            clear HAR HWg
            obtain ⟨j, hj, rfl, hg, ha⟩ := hrel
            by_cases hlt2 : j < n
            · --D<l3
              have t2 : decide ((j : Int) < (n : Int)) = true := decide_eq_true (by omega)
              have w1j : IntKind.i64.wrap ((j : Int) + 1) = (j : Int) + 1 := IntWalk.i64_in _ ⟨by omega, by omega⟩
              have hjl : j < l.length := by rw [← HNL.out]; exact hlt2
              have HJL := Lib.hid hjl
              clear hjl
              go_upto_region 14 with fail
              --T l4
              rename World => W10
              go_loopw [13] (fun k wr => ∃ t : Nat, j + 1 + t ≤ n ∧ k = .int .i64 (((j + 1 + t : Nat)) : Int) ∧ Hid (W9.grownBy wr (some rn)) ∧ Hid (ArrB wr rn ((mixB (canF g0 g1 l m) n j).set j (canU g0 g1 l (m - 1) j t)))) (fun k _ => n - (intOf k).toNat)
              case atStart => exact ⟨0, by omega, by simp, hg, by show ArrB _ _ _; rw [show canU g0 g1 l (m - 1) j 0 = false from rfl, mixB_self _ hlt2]; exact ha.out⟩
              case round =>
                clear hg ha
                obtain ⟨t, ht, rfl, hg, ha⟩ := hrel
                by_cases hlt3 : j + 1 + t < n
                · --D<l4
                  have t3 : decide ((((j + 1 + t : Nat)) : Int) < (n : Int)) = true := decide_eq_true (by omega)
                  obtain ⟨kk, hkk⟩ : ∃ kk, kk = j + 1 + t := ⟨_, rfl⟩
                  rw [← hkk] at hlt3 ht t3 ⊢
                  have HKK := Lib.hid hkk
                  have hkl : kk < l.length := by rw [← HNL.out]; exact hlt3
                  have HTG := Lib.hid (HT.out.grown hg.out (by omega))
                  obtain ⟨cbb, _, rfl, hc1, hc2, _⟩ := HT.out.at_ (i := m - 1) (by omega)
                  obtain ⟨cb', rr, ecb, _, _, cc1, hrr⟩ := HTG.out.at_ (i := m - 1) (by omega)
                  cases ecb
                  have HLW : Hid (Below w.heap.size w wr) := below_trans_grown HW.out hg.out (by omega)
                  obtain ⟨ab, ao, rfl, hab, cdk⟩ := (HS.out.below HLW.out).int_at hkl
                  have cdj : wr.cell? ⟨ab, ao + j, none⟩ = some (.int .i64 (l[j]'HJL.out)) := by
                    obtain ⟨ab', ao', e, _, h⟩ := (HS.out.below HLW.out).int_at HJL.out
                    cases e; exact h
                  have crk := hrr.cell_ (mixB_at (canF g0 g1 l (m - 1)) hkl)
                  have hdk := HB.out _ (List.getElem_mem hkl)
                  have hdj := HB.out _ (List.getElem_mem HJL.out)
                  have hgD : l.getD kk 0 = l[kk] := by simp [hkl]
                  have hgJ : l.getD j 0 = l[j]'HJL.out := by simp [HJL.out]
                  have HUS : Hid (canU g0 g1 l (m - 1) j (t + 1) = (canU g0 g1 l (m - 1) j t || (inB (l[kk] - l[j]'HJL.out) g0 g1 && canF g0 g1 l (m - 1) kk))) := (by
                    show (canU g0 g1 l (m - 1) j t || (inB (l.getD (j + 1 + t) 0 - l.getD j 0) g0 g1 && canF g0 g1 l (m - 1) (j + 1 + t))) = _
                    rw [← hkk, hgD, hgJ] : _ = _)
                  have gg := (HG.out.grown hg.out (by intro e; have := Option.some.inj e; omega))
                  have y0 := gg.cell 0; have y1 := gg.cell 1
                  simp at y0 y1
                  have cmj := ha.out.cell_ (set_at (l := mixB (canF g0 g1 l m) n j) (j := j) (canU g0 g1 l (m - 1) j t) (by rw [mixB_len]; exact hlt2))
                  have fmj := ha.out.free j
                  have HA3 : Hid (ArrB (wr.setCell ⟨rn, j, none⟩ (.bool (canU g0 g1 l (m - 1) j (t + 1)))) rn ((mixB (canF g0 g1 l m) n j).set j (canU g0 g1 l (m - 1) j (t + 1)))) := (by have h := ha.out.put j (canU g0 g1 l (m - 1) j (t + 1)); rwa [set_set] at h)
                  have wm : IntKind.i64.wrap ((m : Int) - 1) = ((m - 1 : Nat) : Int) := (IntWalk.i64_in _ ⟨by omega, by omega⟩).trans (by omega)
                  obtain ⟨dk, hdke⟩ : ∃ d, d = l[kk] := ⟨_, rfl⟩
                  obtain ⟨dj, hdje⟩ : ∃ d, d = l[j]'HJL.out := ⟨_, rfl⟩
                  rw [← hdke] at cdk HUS hdk
                  rw [← hdje] at cdj HUS hdj
                  have wd : IntKind.i64.wrap (dk - dj) = dk - dj := IntWalk.i64_in _ ⟨by omega, by omega⟩
                  obtain ⟨u, hu⟩ : ∃ u, u = canU g0 g1 l (m - 1) j t := ⟨_, rfl⟩
                  obtain ⟨cf, hcf⟩ : ∃ u, u = canF g0 g1 l (m - 1) kk := ⟨_, rfl⟩
                  obtain ⟨nu, hnu⟩ : ∃ u, u = canU g0 g1 l (m - 1) j (t + 1) := ⟨_, rfl⟩
                  rw [← hu] at cmj HUS
                  rw [← hcf] at HUS crk
                  rw [← hnu] at HUS HA3
                  have HNU := Lib.hid hnu
                  obtain ⟨mm, hmm⟩ : ∃ mm, mm = m - 1 := ⟨_, rfl⟩
                  rw [← hmm] at wm cc1
                  have hmm0 : (0 : Int) ≤ (mm : Int) := by omega
                  have hmm1 : (mm : Int) < (m : Int) := by omega
                  have j0 : (0 : Int) ≤ (j : Int) := by omega
                  have j1 : (j : Int) < (n : Int) := by omega
                  have k0 : (0 : Int) ≤ (kk : Int) := by omega
                  have k1 : (kk : Int) < (n : Int) := by omega
                  have HNLr := Lib.hid HNL.out.symm
                  rw [HNLr.out] at cc1
                  obtain ⟨iv, hiv⟩ : ∃ v, v = inB (dk - dj) g0 g1 := ⟨_, rfl⟩
                  have HIN := Lib.hid (fun W => rin_val hiv.symm W)
                  rw [← hiv] at HUS
                  have hwrr : rn < wr.heap.size := ha.out.lt
                  have hcn : cbb ≠ rn := by omega
                  clear hu hcf hnu hdke hdje hgD hgJ hmm hiv gg hrr hkk
                  have HGR : Hid (W9.grownBy wr (some rn)) := hg
                  have AR0 : Hid (ArrB wr rn ((mixB (canF g0 g1 l m) n j).set j (canU g0 g1 l (m - 1) j t))) := ha
                  clear hg ha HTG
                  --T r16
                  go_upto_region 16 with fail
                  cases u with
                  | true =>
                    have HN1 : Hid (nu = true) := (by rw [HUS.out]; rfl : nu = true)
                    refine wp_region_tail 33 (by kernel_rfl) (by kernel_rfl) ?_
                    simp only [List.take_succ_cons, List.take_zero, List.drop_succ_cons, List.drop_zero]
                    (repeat (go_big_quiet_step ((go_at_call 65; with_reducible exact Calls.ext_same (HIN.out _)))))
                    with_reducible refine wpQuiet_nil ?_
                    intro w3 hw3
                    have hb3 := ext_below hw3
                    have fm3 := (AR0.out.below hb3 AR0.out.lt).free j
                    have HA4 : Hid (ArrB (w3.setCell ⟨rn, j, none⟩ (.bool true)) rn ((mixB (canF g0 g1 l m) n j).set j nu)) := (by have h := (show ArrB w3 rn _ from AR0.out.below hb3 AR0.out.lt).put j true; rw [set_set] at h; rw [HN1.out]; exact h)
                    have cm3 := (hb3.cell (p := ⟨rn, j, none⟩) hwrr).trans cmj
                    clear hw3
                    go_wp2_with fail
                    go_roundw
                    case rel => exact ⟨t + 1, by have := HKK.out; omega, by rw [HKK.out]; go_num, grown_setZ (grown_below HGR.out hb3) _, by rw [← HNU.out]; exact HA4⟩
                    case measure => have := HKK.out; simp [intOf]; omega
                  | false =>
                    have HN1 : Hid (nu = (iv && cf)) := (by rw [HUS.out]; simp : nu = (iv && cf))
                    cases iv with
                    | true =>
                      have HN2 : Hid (nu = cf) := (by rw [HN1.out]; rfl : nu = cf)
                      refine wp_region_tail 33 (by kernel_rfl) (by kernel_rfl) ?_
                      simp only [List.take_succ_cons, List.take_zero, List.drop_succ_cons, List.drop_zero]
                      (repeat (go_big_quiet_step ((go_at_call 65; with_reducible exact Calls.ext_same (HIN.out _)))))
                      with_reducible refine wpQuiet_nil ?_
                      intro w3 hw3
                      have hb3 := ext_below hw3
                      have fm3 := (AR0.out.below hb3 AR0.out.lt).free j
                      have HA4 : Hid (ArrB (w3.setCell ⟨rn, j, none⟩ (.bool cf)) rn ((mixB (canF g0 g1 l m) n j).set j nu)) := (by have h := (show ArrB w3 rn _ from AR0.out.below hb3 AR0.out.lt).put j cf; rw [set_set] at h; rw [HN2.out]; exact h)
                      have cm3 := (hb3.cell (p := ⟨rn, j, none⟩) hwrr).trans cmj
                      clear hw3
                      go_wp2_with fail
                      go_roundw
                      case rel => exact ⟨t + 1, by have := HKK.out; omega, by rw [HKK.out]; go_num, grown_setZ (grown_below HGR.out hb3) _, by rw [← HNU.out]; exact HA4⟩
                      case measure => have := HKK.out; simp [intOf]; omega
                    | false =>
                      have HN2 : Hid (nu = false) := (by rw [HN1.out]; rfl : nu = false)
                      refine wp_region_tail 33 (by kernel_rfl) (by kernel_rfl) ?_
                      simp only [List.take_succ_cons, List.take_zero, List.drop_succ_cons, List.drop_zero]
                      (repeat (go_big_quiet_step ((go_at_call 65; with_reducible exact Calls.ext_same (HIN.out _)))))
                      with_reducible refine wpQuiet_nil ?_
                      intro w3 hw3
                      have hb3 := ext_below hw3
                      have fm3 := (AR0.out.below hb3 AR0.out.lt).free j
                      have HA4 : Hid (ArrB (w3.setCell ⟨rn, j, none⟩ (.bool false)) rn ((mixB (canF g0 g1 l m) n j).set j nu)) := (by have h := (show ArrB w3 rn _ from AR0.out.below hb3 AR0.out.lt).put j false; rw [set_set] at h; rw [HN2.out]; exact h)
                      have cm3 := (hb3.cell (p := ⟨rn, j, none⟩) hwrr).trans cmj
                      clear hw3
                      go_wp2_with fail
                      go_roundw
                      case rel => exact ⟨t + 1, by have := HKK.out; omega, by rw [HKK.out]; go_num, grown_setZ (grown_below HGR.out hb3) _, by rw [← HNU.out]; exact HA4⟩
                      case measure => have := HKK.out; simp [intOf]; omega
                  --D>
                · --D<l4e
                  have hje : j + 1 + t = n := by omega
                  have HA4 : Hid (ArrB wr rn (mixB (canF g0 g1 l m) n (j + 1))) := (by
                    have h : ArrB wr rn _ := ha.out
                    have h2 := canU_all (g0 := g0) (g1 := g1) (l := l) (n := m - 1) (i := j) (j := t) HJL.out (by rw [← HNL.out]; exact hje)
                    rw [h2, show m - 1 + 1 = m by omega, mixB_set (canF g0 g1 l m) hlt2] at h
                    exact h : ArrB wr rn (mixB (canF g0 g1 l m) n (j + 1)))
                  have HGR : Hid (W9.grownBy wr (some rn)) := hg
                  have t3 : decide ((((j + 1 + t : Nat)) : Int) < (n : Int)) = false := decide_eq_false (by omega)
                  rw [hje] at t3 ⊢
                  clear hje ha hg
                  go_wp2_with fail
                  go_roundw
                  case rel => exact ⟨j + 1, by omega, by go_num, HGR, HA4⟩
                  case measure => simp [intOf]; omega
                  --D>
              --D>
            · --D<l3e
              obtain rfl : n = j := by omega
              have HA4 : Hid (ArrB wr rn (mixB (canF g0 g1 l m) l.length l.length)) := (by rw [← HNL.out]; exact ha.out : ArrB wr rn _)
              have HT4 : Hid (RpT l g0 g1 (w.heap.size + 1) m (.slice Ac m cc) rows wr) := (HT.out.grown hg.out (by omega) : RpT _ _ _ _ _ _ _ _)
              have HG4 : Hid (Blk wr w.heap.size #[.int .i64 g0, .int .i64 g1] 30) := (HG.out.grown hg.out (by intro e; have := Option.some.inj e; omega) : Blk _ _ _ _)
              have HW4 : Hid (Below w.heap.size w wr) := (below_trans_grown HW.out hg.out (by omega) : Below _ _ _)
              have hwl := HG4.out.lt
              clear ha hg HT HG HW hlt2 hj
              go_wp2_with (at_builtin; refine wpList_append_own _ rfl _ _ 114 rfl (w.heap.size + 1) 113 i0 (.slice none 0 0) 1 24 uBoolssR hi iz0 iz1 iz2 rfl (by decide) _ _ _ rfl (HT4.out.own.alloc _) ⟨wr.heap.size, 0, none⟩ 1 1 [.slice (some ⟨rn, 0, none⟩) n n] rfl rfl (cell_one_new _ _ _) (by simp [Value.oneCell']) (by unfold maxLen; omega) (by omega) (by simp; omega) ?_; intro v' w5 hown5 hgrow _; refine Hid.out ?_; have HT5 : Hid (RpT l g0 g1 (w.heap.size + 1) (m + 1) v' (rows ++ [rn]) w5) := (RpT.app (HT4.out.below ((Below.refl _ _).alloc (Nat.le_refl _) _)) (HA4.out.alloc _) (by rw [← HNL.out] at hown5 ⊢; exact hown5) hgrow : RpT _ _ _ _ _ _ _ _); have HB5 : Hid (Below w.heap.size w w5) := (HW4.out.alloc HW4.out.size _).grown hgrow (by have := HW4.out.size; simp; omega) (fun g hg => by have := (HT4.out.own.lt g hg).1; omega); have HG5 : Hid (Blk w5 w.heap.size #[.int .i64 g0, .int .i64 g1] 30) := (HG4.out.alloc _).grown hgrow (fun hg => by have := (HT4.out.own.lt _ hg.symm).1; omega); clear hown5 hgrow; refine Lib.hid ?_)
              go_roundw
              case rel => exact ⟨m + 1, rows ++ [rn], by omega, by omega, by go_num, HT5, HG5, HB5⟩
              case measure => simp [intOf]; omega
              --D>
          --D>
        · --D<l2e
          obtain rfl : Tn = m := by omega
          obtain ⟨Ac, cc, hv⟩ := own_slice HT.out.own
          subst hv
          have wT : IntKind.i64.wrap ((Tn : Int) - 1) = (Tn : Int) - 1 := IntWalk.i64_in _ ⟨by omega, by omega⟩
          have hgl := HG.out.lt
          clear hlt hm2
          go_upto_region 20 with fail
          --T l5
          go_loopw [14, 15, 16, 17, 18] (fun out la nn _ _ wr => ∃ (q : Nat) (acc : List Int) (Ap : Option Addr) (cp : Nat) (lz : Int) (si : Nat) (ld : Option Int), acc.length + q ≤ Tn ∧ nn = .int .i64 ((q : Int) - 1) ∧ out = .slice Ap acc.length cp ∧ la = .int .i64 lz ∧ si ≤ n ∧ Hid (wr.ownsRow W9.heap.size 3 1 (.slice Ap acc.length cp) acc.length (acc.map (Value.int .i64))) ∧ Hid (Below W9.heap.size W9 wr) ∧ Hid ((lz = -1 ∧ si = 0 ∧ ld = none) ∨ ∃ r dr : _, r < n ∧ l[r]? = some dr ∧ lz = ((r : Nat) : Int) ∧ si = r + 1 ∧ ld = some dr) ∧ Hid (R = (refG g0 g1 (l.drop si) ld q).map (acc ++ ·))) (fun _ _ nn _ _ _ => (intOf nn + 1).toNat)
          case atStart =>
            refine ⟨Tn, [], _, _, -1, 0, none, by simp, rfl, rfl, rfl, by omega, ?_, (Below.refl _ _).alloc (Nat.le_refl _) _, .inl ⟨rfl, rfl, rfl⟩, ?_⟩
            · exact World.ownsRow_made (e := 3) (size := 1) W9 #[] 0 (base := W9.heap.size) (by omega) (by simp) (by simp)
            · show R = _
              rw [HR.out]; simp
          case round =>
            obtain ⟨q, acc, Ap, cp, lz, si, ld, hacc, rfl, rfl, rfl, hsi, HO, HWr, HLD, HRq⟩ := hrel
            cases q with
            | zero =>
              --D<q0
              have t1 : decide ((0 : Int) ≤ ((0 : Nat) : Int) - 1) = false := by simp
              have HRE : Hid (R = some acc) := (by rw [HRq.out]; cases l.drop si <;> simp [refG] : R = some acc)
              obtain ⟨A9, c9, e9, hs9⟩ := Sl.of_own (f := intCell) (l := acc) (by rw [flat_int]; exact HO.out)
              have e9' : Ap = A9 ∧ cp = c9 := by simpa using e9
              obtain ⟨rfl, rfl⟩ := e9'
              have hnz : Ap = none → cp = 0 := fun h => by
                rcases HO.out.2 with ⟨h1, _⟩ | ⟨g, cap, cur, h1, _⟩
                · exact (by simpa using h1 : Ap = none ∧ acc = [] ∧ cp = 0).2.2
                · rw [h] at h1; simp at h1
              have HS9 := Lib.hid hs9; have HNZ := Lib.hid hnz
              clear e9 hs9 hnz HRq HLD
              go_wp2_with fail
              refine bodyPost_ret (v := .tuple #[.slice Ap acc.length cp, .bool true]) (by simp [results, Try.results23, go_sem]) rfl ?_
              rw [HRE.out]
              exact ⟨Ap, cp, rfl, HS9.out, HNZ.out, HW.out.trans (HWr.out.mono HW.out.size)⟩
              --D>
            | succ qq =>
              --D<q1
              rw [show (((qq + 1 : Nat)) : Int) - 1 = (qq : Int) by omega]
              have t1 : decide ((0 : Int) ≤ (qq : Int)) = true := by simp
              have wl : IntKind.i64.wrap (lz + 1) = (si : Int) := by
                rcases HLD.out with ⟨h1, h2, _⟩ | ⟨r, dr, h1, _, h2, h3, _⟩
                · exact (IntWalk.i64_in _ ⟨by omega, by omega⟩).trans (by omega)
                · exact (IntWalk.i64_in _ ⟨by omega, by omega⟩).trans (by omega)
              have wq : IntKind.i64.wrap ((qq : Int) - 1) = (qq : Int) - 1 := IntWalk.i64_in _ ⟨by omega, by omega⟩
              go_upto_region 24 with fail
              --T l6
              go_loopw [14, 15, 17, 18] (fun out la fo i wr => RpRel l g0 g1 n R acc Ap cp lz ld qq W9 out la fo i wr) (fun _ _ _ i _ => n - (intOf i).toNat)
              case atStart => unfold RpRel; exact .inl ⟨si, hsi, rfl, rfl, rfl, rfl, HO, HWr, HRq⟩
              case round =>
                clear HO HWr HRq wl
                unfold RpRel at hrel
                rcases hrel with ⟨kk, hk, rfl, rfl, rfl, rfl, HO4, HW4, HR4⟩ | ⟨r, hrn, dr, Aq, cq, rfl, rfl, rfl, rfl, HKD, HO5, HB5, HR5⟩
                · by_cases hkn : kk < n
                  · --D<r26
                    have t2 : decide ((kk : Int) < (n : Int)) = true := decide_eq_true (by omega)
                    have hkl : kk < l.length := by rw [← HNL.out]; exact hkn
                    have HSt := Lib.hid (refG_step (g0 := g0) (g1 := g1) hkl ld qq)
                    have hTw := HT.out.below HW4.out
                    obtain ⟨cbb, rr, rfl, hc1, hc2, cc1, hrr⟩ := hTw.at_ (i := qq) (by omega)
                    have HSL : Hid (Sl intCell 1 wr w.heap.size A l) := HS.out.below (HW.out.trans (HW4.out.mono HW.out.size))
                    obtain ⟨ab, ao, rfl, hab, cdk⟩ := HSL.out.int_at hkl
                    have crk := hrr.cell_ (mixB_at (canF g0 g1 l qq) hkl)
                    have hdk := HB.out _ (List.getElem_mem hkl)
                    have hkd : l[kk]? = some l[kk] := List.getElem?_eq_getElem hkl
                    obtain ⟨dk, hdke⟩ : ∃ d, d = l[kk] := ⟨_, rfl⟩
                    rw [← hdke] at cdk HSt hdk hkd
                    have HKD : Hid (l[kk]? = some dk) := hkd
                    obtain ⟨cf, hcf⟩ : ∃ u, u = canF g0 g1 l qq kk := ⟨_, rfl⟩
                    rw [← hcf] at HSt crk
                    have HNLr := Lib.hid HNL.out.symm
                    rw [HNLr.out] at cc1
                    have q0 : (0 : Int) ≤ (qq : Int) := by omega
                    have q1 : (qq : Int) < (Tn : Int) := by omega
                    have k0 : (0 : Int) ≤ (kk : Int) := by omega
                    have k1 : (kk : Int) < (n : Int) := by omega
                    have y0 := (HG.out.below HW4.out hgl).cell 0; have y1 := (HG.out.below HW4.out hgl).cell 1
                    simp at y0 y1
                    have hcbl := hc2
                    have habw : ab < wr.heap.size := by have := HW.out.size; have := HW4.out.size; omega
                    clear hcf hdke hrr hTw hkl hkd hc2
                    go_upto_region 26 with fail
                    cases cf with
                    | false =>
                      have HRS : Hid (R = (refG g0 g1 (l.drop (kk + 1)) ld (qq + 1)).map (acc ++ ·)) := (by rw [HR4.out, HSt.out]; simp : R = _)
                      (refine wp_region_ext (by kernel_rfl) (by kernel_rfl) ?_; (repeat (go_big_quiet_step(fail))); with_reducible refine wpQuiet_nil ?_; intro w1 hw1; have hb1 := ext_below hw1; clear hw1)
                      have HO6 := Lib.hid (own_stepR HO4.out hb1); have HW6 : Hid (Below W9.heap.size W9 w1) := HW4.out.trans (hb1.mono HW4.out.size)
                      clear hb1
                      go_wp2_with fail
                      go_roundw
                      case rel => unfold RpRel; exact .inl ⟨kk + 1, by omega, rfl, rfl, rfl, by go_num, HO6, HW6, HRS⟩
                      case measure => simp [intOf]; omega
                    | true =>
                      rcases HLD.out with ⟨rfl, rfl, rfl⟩ | ⟨r, dr, hrn, hrd, rfl, rfl, rfl⟩
                      · have HRS : Hid (R = ((refG g0 g1 (l.drop (kk + 1)) (some dk) qq).map (dk :: ·)).map (acc ++ ·)) := (by rw [HR4.out, HSt.out]; simp [nearB] : R = _)
                        (refine wp_region_ext (by kernel_rfl) (by kernel_rfl) ?_; (repeat (go_big_quiet_step(fail))); with_reducible refine wpQuiet_nil ?_; intro w1 hw1; have hb1 := ext_below hw1; clear hw1)
                        have HO4 := Lib.hid (own_stepR HO4.out hb1); have HW4 : Hid (Below W9.heap.size W9 w1) := HW4.out.trans (hb1.mono HW4.out.size)
                        have cdk := (hb1.cell (p := ⟨ab, ao + kk, none⟩) habw).trans cdk
                        clear hb1
                        have HR5 : Hid (R = (refG g0 g1 (l.drop (kk + 1)) (some dk) qq).map ((acc ++ [dk]) ++ ·)) := (by rw [HRS.out]; simp [Option.map_map, Function.comp_def] : R = _)
                        go_wp2_with (at_builtin; refine wpList_append_own _ rfl _ _ 38 rfl W9.heap.size 3 i5 (.int .i64 0) 1 8 uIntsR hi5 iw0 iw1 iw2 rfl (by decide) _ _ _ rfl (HO4.out.alloc _) ⟨w1.heap.size, 0, none⟩ 1 1 [.int .i64 dk] rfl rfl (cell_one_new _ _ _) (by simp [Value.oneCell']) (by unfold maxLen; omega) (by omega) (by have := HW4.out.size; simp; omega) ?_; intro v' w5 hown5 hgrow _; refine Hid.out ?_; obtain ⟨Aq, cq, rfl⟩ := own_slice hown5; have HO5 : Hid (w5.ownsRow W9.heap.size 3 1 (.slice Aq (acc.length + 1) cq) (acc.length + 1) ((acc ++ [dk]).map (Value.int .i64))) := (by rw [List.map_append]; exact hown5); have HB5 : Hid (Below W9.heap.size W9 w5) := (HW4.out.alloc HW4.out.size _).grown hgrow (by have := HW4.out.size; simp; omega) (fun g hg => by have := (HO4.out.lt g hg).1; omega); clear hown5 hgrow; refine Lib.hid ?_)
                        go_roundw
                        case rel =>
                          (repeat apply Exists.intro)
                          apply And.intro
                          rotate_left 1
                          (and_intros <;> rfl)
                          unfold RpRel
                          exact .inr ⟨kk, by omega, dk, Aq, cq, rfl, rfl, rfl, by go_num, HKD, HO5, HB5, HR5⟩
                        case measure => simp [intOf]; omega
                      · have hrl : r < l.length := by rw [← HNL.out]; exact hrn
                        have hdr2 : l[r] = dr := by rw [List.getElem?_eq_getElem hrl] at hrd; exact Option.some.inj hrd
                        have hdr := HB.out _ (List.getElem_mem hrl)
                        have cdr : wr.cell? ⟨ab, ao + r, none⟩ = some (.int .i64 dr) := by
                          obtain ⟨ab', ao', e, _, h⟩ := HSL.out.int_at hrl
                          cases e; rw [← hdr2]; exact h
                        rw [hdr2] at hdr
                        have wd : IntKind.i64.wrap (dk - dr) = dk - dr := IntWalk.i64_in _ ⟨by omega, by omega⟩
                        have r0' : (0 : Int) ≤ (r : Int) := by omega
                        have r1' : (r : Int) < (n : Int) := by omega
                        have d0 : decide ((r : Int) < 0) = false := by simp
                        obtain ⟨iv, hiv⟩ : ∃ v, v = inB (dk - dr) g0 g1 := ⟨_, rfl⟩
                        have HIN := Lib.hid (fun W => rin_val hiv.symm W)
                        have HNB : Hid (nearB g0 g1 (some dr) dk = iv) := (by rw [hiv]; rfl : nearB g0 g1 (some dr) dk = iv)
                        have HRD := Lib.hid hrd
                        clear hiv hdr2 hrd hrl
                        cases iv with
                        | true =>
                          have HRS : Hid (R = ((refG g0 g1 (l.drop (kk + 1)) (some dk) qq).map (dk :: ·)).map (acc ++ ·)) := (by rw [HR4.out, HSt.out, HNB.out]; simp : R = _)
                          (refine wp_region_ext (by kernel_rfl) (by kernel_rfl) ?_; (repeat (go_big_quiet_step((go_at_call 65; with_reducible exact Calls.ext_same (HIN.out _))))); with_reducible refine wpQuiet_nil ?_; intro w1 hw1; have hb1 := ext_below hw1; clear hw1)
                          have HO4 := Lib.hid (own_stepR HO4.out hb1); have HW4 : Hid (Below W9.heap.size W9 w1) := HW4.out.trans (hb1.mono HW4.out.size)
                          have cdk := (hb1.cell (p := ⟨ab, ao + kk, none⟩) habw).trans cdk
                          clear hb1
                          have HR5 : Hid (R = (refG g0 g1 (l.drop (kk + 1)) (some dk) qq).map ((acc ++ [dk]) ++ ·)) := (by rw [HRS.out]; simp [Option.map_map, Function.comp_def] : R = _)
                          go_wp2_with (at_builtin; refine wpList_append_own _ rfl _ _ 38 rfl W9.heap.size 3 i5 (.int .i64 0) 1 8 uIntsR hi5 iw0 iw1 iw2 rfl (by decide) _ _ _ rfl (HO4.out.alloc _) ⟨w1.heap.size, 0, none⟩ 1 1 [.int .i64 dk] rfl rfl (cell_one_new _ _ _) (by simp [Value.oneCell']) (by unfold maxLen; omega) (by omega) (by have := HW4.out.size; simp; omega) ?_; intro v' w5 hown5 hgrow _; refine Hid.out ?_; obtain ⟨Aq, cq, rfl⟩ := own_slice hown5; have HO5 : Hid (w5.ownsRow W9.heap.size 3 1 (.slice Aq (acc.length + 1) cq) (acc.length + 1) ((acc ++ [dk]).map (Value.int .i64))) := (by rw [List.map_append]; exact hown5); have HB5 : Hid (Below W9.heap.size W9 w5) := (HW4.out.alloc HW4.out.size _).grown hgrow (by have := HW4.out.size; simp; omega) (fun g hg => by have := (HO4.out.lt g hg).1; omega); clear hown5 hgrow; refine Lib.hid ?_)
                          go_roundw
                          case rel =>
                            (repeat apply Exists.intro)
                            apply And.intro
                            rotate_left 1
                            (and_intros <;> rfl)
                            unfold RpRel
                            exact .inr ⟨kk, by omega, dk, Aq, cq, rfl, rfl, rfl, by go_num, HKD, HO5, HB5, HR5⟩
                          case measure => simp [intOf]; omega
                        | false =>
                          have HRS : Hid (R = (refG g0 g1 (l.drop (kk + 1)) (some dr) (qq + 1)).map (acc ++ ·)) := (by rw [HR4.out, HSt.out, HNB.out]; simp : R = _)
                          (refine wp_region_ext (by kernel_rfl) (by kernel_rfl) ?_; (repeat (go_big_quiet_step((go_at_call 65; with_reducible exact Calls.ext_same (HIN.out _))))); with_reducible refine wpQuiet_nil ?_; intro w1 hw1; have hb1 := ext_below hw1; clear hw1)
                          have HO6 := Lib.hid (own_stepR HO4.out hb1); have HW6 : Hid (Below W9.heap.size W9 w1) := HW4.out.trans (hb1.mono HW4.out.size)
                          clear hb1
                          go_wp2_with fail
                          go_roundw
                          case rel => unfold RpRel; exact .inl ⟨kk + 1, by omega, rfl, rfl, rfl, by go_num, HO6, HW6, HRS⟩
                          case measure => simp [intOf]; omega
                    --D>
                  · --D<r29
                    obtain rfl : n = kk := by omega
                    have HRE : Hid (R = none) := (by rw [HR4.out, refG_end (by rw [← HNL.out]; exact Nat.le_refl _)]; rfl : R = none)
                    clear HR4
                    go_wp2_with fail
                    refine bodyPost_ret (v := .tuple #[.slice none 0 0, .bool false]) (by simp [results, Try.results23, go_sem]) rfl ?_
                    rw [HRE.out]
                    exact ⟨rfl, HW.out.trans (HW4.out.mono HW.out.size)⟩
                    --D>
                · --D<r21
                  have HLD5 : Hid (((r : Int) = -1 ∧ r + 1 = 0 ∧ (some dr : Option Int) = none) ∨ ∃ r' dr' : _, r' < n ∧ l[r']? = some dr' ∧ (r : Int) = ((r' : Nat) : Int) ∧ r + 1 = r' + 1 ∧ some dr = some dr') := .inr ⟨r, dr, hrn, HKD.out, rfl, rfl, rfl⟩
                  have hlen : (acc ++ [dr]).length = acc.length + 1 := by simp
                  have HO7 : Hid (wr.ownsRow W9.heap.size 3 1 (.slice Aq (acc ++ [dr]).length cq) (acc ++ [dr]).length ((acc ++ [dr]).map (Value.int .i64))) := (by rw [hlen]; exact HO5.out)
                  have hacc7 : (acc ++ [dr]).length + qq ≤ Tn := by rw [hlen]; omega
                  have HLN := Lib.hid hlen
                  clear hlen HLD
                  by_cases hrn2 : r + 1 < n
                  · have t2 : decide ((r : Int) + 1 < (n : Int)) = true := decide_eq_true (by omega)
                    go_wp2_with fail
                    go_roundw
                    case rel => exact ⟨qq, acc ++ [dr], Aq, cq, (r : Int), r + 1, some dr, hacc7, rfl, by rw [HLN.out], rfl, by omega, HO7, HB5, HLD5, HR5⟩
                    case measure => simp [intOf] <;> omega
                  · have t2 : decide ((r : Int) + 1 < (n : Int)) = false := decide_eq_false (by omega)
                    go_wp2_with fail
                    go_roundw
                    case rel => exact ⟨qq, acc ++ [dr], Aq, cq, (r : Int), r + 1, some dr, hacc7, rfl, by rw [HLN.out], rfl, by omega, HO7, HB5, HLD5, HR5⟩
                    case measure => simp [intOf] <;> omega
                  --D>
              --D>
          --D>
end Go.Proofs.Ytfbnllmmoaialaa

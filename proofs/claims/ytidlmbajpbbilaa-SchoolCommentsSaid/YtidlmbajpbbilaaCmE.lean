/- The law SchoolComments: the walk. -/
import Derived.Test.YtidlmbajpbbilaaZ28LgA
import Derived.Test.YtidlmbajpbbilaaHeldT
import Derived.Test.YtidlmbajpbbilaaPlan
import Derived.Test.YtidlmbajpbbilaaScPN
import Derived.Deep.RegionHeld
import Derived.Deep.RegionHeld3
import Derived.Deep.RegionHeldLaw
import Derived.Deep.RegionLaw
import Derived.Deep.AppendLies
import Derived.Deep.DeepCutAuto
namespace Go.Proofs.Ytidlmbajpbbilaa
open Go.RowKit

theorem rdn_any {s s' : Sch} {A' : Option Addr} (c' : Nat) {kind kd : Int} {ch RQ RM : List Int} {n : Nat} {W : World} (hpl : s'.pl = s.pl) (hr : s'.reads W W.heap.size) (hA : Sl intCell 1 W W.heap.size A' ch) (hn : ch.length = n) (hl : ch.length ≤ 1000000)
    (hrr : readR s ch kind = (kd, RQ, RM, 0)) : Calls Try.prog 33 #[scv s' s'.rv, .slice A' n c', .int .i64 kind] W (RetReadN (kd, RQ, RM, 0) W) := by
  have h := read_new s' ch kind A' c' W hr hl hA
  rw [← readR_pl, hpl, readR_pl, hrr, hn] at h; exact h
set_option maxRecDepth 100000 in
set_option maxHeartbeats 100000000 in
theorem lwcom_ok (s : Sch) (kind : Int) (A : Option Addr) (c : Nat) (cs : List Cas) (w : World) (HRR : Hid (s.wreads w w.heap.size)) (HN0 : Hid s.nil0) (HAA : Hid (CasRead w w.heap.size A cs)) (HC0 : Hid (∀ q ∈ cs, q.nil0))
    (hg : largeB s 600 = false) (h30 : cs.length ≤ 30) (h10 : Hid (∀ q ∈ cs, q.when_.length ≤ 8)) :
    Calls Try.prog 12 #[scv s s.rv, .int .i64 kind, .slice A cs.length c] w fun e w' => e = .returned (.bool true) ∧ Below w.heap.size w w' := by
  obtain ⟨hlen, hall, -⟩ := not_large hg
  have d1 : decide (30 < (cs.length : Int)) = false := by simp; omega
  have d1' : decide (30 < cs.length) = false := by simp; omega
  have hrd := reads_of_weak HRR.out hlen hall
  obtain ⟨x1, x2, x3, er, hcr⟩ : ∃ a b c d, glossR s kind cs = (a, b, c, d) := ⟨_, _, _, _, rfl⟩
  have HCR := Lib.hid hcr; have HR := Lib.hid hrd
  have HOWN := Lib.hid (fun W (hW : Below w.heap.size w W) => own_new s W ((HR.out.below hW).more hW.size) HN0.out (by omega))
  clear hcr hrd hall
  go_enter Try.func12, Try.ntmps12
  go_wp2_with (go_at_call 14; refine (large_any s 600 _ ((HRR.out.below (by (repeat (first | exact Below.refl _ _ | assumption | (refine Below.alloc ?_ (by first | omega | (simp; omega) | (simp; done)) _) | (refine Below.setCell ?_ (by first | omega | (simp; omega) | (simp; done)) _) | (refine Below.drew ?_) | (refine belowN ?_ _) | (refine Below.trans ?_ (Below.mono ‹Below _ _ _› (by first | omega | (simp; omega) | (simp; done)))))))).more (by simp))).mono ?_; rintro _ W1 ⟨rfl, hbx⟩; rw [hg]; have hw1 := bl2 (bla (Below.refl _ _)) hbx; have g1 : Blk W1 w.heap.size #[.int .i64 s.places, .int .i64 s.signs, .int .i64 s.kinds, .int .i64 s.answers, s.rv] 24 := (Blk.at_ rfl).below hbx (by first | omega | (simp; omega) | (simp; done)); (have s0 := g1.cell 0; have s1 := g1.cell 1; have s2 := g1.cell 2; have s3 := g1.cell 3; have s4 := g1.cell 4; simp at s0 s1 s2 s3 s4))
  clear d1 d1' s0 s1 s2 s3 s4
  refine gen_w (fun W => Below w.heap.size w W ∧ Blk W w.heap.size #[.int .i64 s.places, .int .i64 s.signs, .int .i64 s.kinds, .int .i64 s.answers, s.rv] 24) ⟨hw1, g1⟩ ?_
  clear g1 hw1 hbx
  clear W1
  rintro w0 ⟨hw0, g0⟩
  go_loopw [7] (fun i wr => ∃ j : Nat, j ≤ cs.length ∧ i = .int .i64 j ∧ Below w0.heap.size w0 wr) (fun i _ => cs.length - (intOf i).toNat)
  case atStart => exact ⟨0, by omega, rfl, Below.refl _ _⟩
  case round =>
    obtain ⟨j, hj, rfl, hb⟩ := hrel
    have hw1 : Below w.heap.size w wr := bl2 hw0 hb
    have g1 := g0.below hb g0.lt
    by_cases hlt : j < cs.length
    · have hrr := HAA.out.below hw1
      obtain ⟨ab, ao, rfl, hblk, hcell⟩ := hrr.1.at_ (k := j) (fun _ => rfl) hlt
      have h10' := h10.out _ (List.getElem_mem hlt)
      obtain ⟨⟨qa, qc, hqv, -⟩, -, -⟩ := hrr.2.2 _ (List.getElem_mem hlt)
      obtain ⟨q, hqe⟩ : ∃ t, cs[j] = t := ⟨_, rfl⟩
      rw [hqe] at hcell h10' hqv
      have cw0 : wr.cell? ⟨ab, ao + j * 2, none⟩ = some (Value.slice qa q.when_.length qc) := by rw [← hqv]; exact hcell 0 _ rfl
      have hj0 : (0 : Int) ≤ (j : Int) := by omega
      have hj1 : (j : Int) < (cs.length : Int) := by omega
      have d2 : decide (8 < (q.when_.length : Int)) = false := by simp; omega
      have d2' : decide (8 < q.when_.length) = false := by simp; omega
      clear hcell hrr hqe hqv
      go_wp2
      go_roundw
      case rel => exact ⟨j + 1, by omega, by go_num, hb⟩
      case measure => simp [intOf]; omega
    · (have s0 := g1.cell 0; have s1 := g1.cell 1; have s2 := g1.cell 2; have s3 := g1.cell 3; have s4 := g1.cell 4; simp at s0 s1 s2 s3 s4)
      go_wp2_with (first | (go_at_call 17; refine (HOWN.out _ hw1).mono ?_; rintro _ W2 ⟨s', rfl, hpl, hr', -, hbx⟩; have HPL := Lib.hid hpl; have HR' := Lib.hid hr'.reads; clear hpl hr'; have hw2 := bl2 hw1 hbx; have g1 := g1.below hbx g1.lt; (have s0 := g1.cell 0; have s1 := g1.cell 1; have s2 := g1.cell 2; have s3 := g1.cell 3; have s4 := g1.cell 4; simp at s0 s1 s2 s3 s4)) |
        (go_at_call 28; refine (cases_any cs A c _ ((HAA.out.below hw2).more hw2.size) HC0.out (by omega)).mono ?_; rintro _ W3 ⟨A', c', cs', rfl, hcap, -, hpc, hA', hb3⟩; have HPC := Lib.hid hpc; have HA' := Lib.hid hA'; clear hpc hA'; have hw3 := bl2 hw2 hb3; have g1 := g1.below hb3 g1.lt; (have s0 := g1.cell 0; have s1 := g1.cell 1; have s2 := g1.cell 2; have s3 := g1.cell 3; have s4 := g1.cell 4; simp at s0 s1 s2 s3 s4)) |
        (go_at_call 27; refine (gglo_any s' kind cs' A' c' _ hcap ((HR'.out.below hb3).more hb3.size) HA'.out).mono ?_; rw [gloss_cong HPL.out HPC.out, HCR.out]; rintro _ W4 ⟨rfl, hb4⟩; refine Hid.out ?_))
      have hw4 := bl2 hw3 hb4
      have g1 := g1.below hb4 g1.lt
      clear HR' HPL HA' HPC s0 s1 s2 s3 s4
      refine Lib.hid ?_
      refine gen_w (fun W => Below w.heap.size w W ∧ Blk W w.heap.size #[.int .i64 s.places, .int .i64 s.signs, .int .i64 s.kinds, .int .i64 s.answers, s.rv] 24) ⟨hw4, g1⟩ ?_
      clear g1 hw4 hb4 hw3 hb3 hbx hw1 hw2 hb g0 hw0 h10 hlt hj
      clear hcap
      rintro W ⟨hw, g1⟩
      (have s0 := g1.cell 0; have s1 := g1.cell 1; have s2 := g1.cell 2; have s3 := g1.cell 3; have s4 := g1.cell 4; simp at s0 s1 s2 s3 s4)
      by_cases he : er = 0
      · subst he
        obtain ⟨hv, hki, hca, hgp⟩ := glossR_0 HCR.out
        have V := valid_of HR.out.oks hv
        have HV := Lib.hid hv; have HVA := Lib.hid V; have HKI := Lib.hid hki; have HCA := Lib.hid hca; have HGP := Lib.hid hgp
        obtain ⟨hk0, hk1⟩ := inB_iff.1 hki
        clear HCR hv V hki hca hgp
        --D< comm
        go_wp2_with fail
        obtain ⟨b7, hb7⟩ : ∃ b, b = W.heap.size := ⟨_, rfl⟩
        rw [← hb7]
        refine gen_w (fun W => Below w.heap.size w W ∧ Blk W w.heap.size #[.int .i64 s.places, .int .i64 s.signs, .int .i64 s.kinds, .int .i64 s.answers, s.rv] 24 ∧ Blk W b7 #[.int .i64 s.places, .int .i64 s.signs, .int .i64 1, .int .i64 s.answers, .slice none 0 0] 24 ∧ W.heap.size = b7 + 1) ⟨bla hw, g1.alloc _, Blk.at_ hb7, by simp [hb7]⟩ ?_
        have hz7 : w.heap.size < b7 := by rw [hb7]; exact g1.lt
        clear g1 hw hb7 s0 s1 s2 s3 s4 W
        rintro w0 ⟨hw0, g1b, g7b, hzw⟩
        have G7 := Lib.hid g7b
        have HN2 := Lib.hid (cst_zero s cs (b7 + 1) w0)
        clear g7b
        obtain ⟨i1, hi1, iy0, iy1, iy2⟩ := info_parts infoRule
        go_loopw [13] (fun i wr => ∃ (j : Nat) (q : Sch), j ≤ cs.length ∧ i = .int .i64 j ∧ Hid (Below b7 w0 wr) ∧ Hid (Blk wr b7 #[.int .i64 s.places, .int .i64 s.signs, .int .i64 1, .int .i64 s.answers, .slice q.ra q.rules.length q.rc] 24) ∧ Hid (Cst s cs (b7 + 1) j wr q) ∧ b7 < wr.heap.size) (fun i _ => cs.length - (intOf i).toNat)
        case atStart => exact ⟨0, ⟨s.places, s.signs, 1, s.answers, none, 0, []⟩, by omega, rfl, Below.refl _ _, G7, HN2, by omega⟩
        case round =>
          obtain ⟨j, q, hj, rfl, hb, G7, HC, hz7r⟩ := hrel
          have g7 := G7.out
          have x4 := g7.cell 4
          simp at x4
          have hwr : Below w.heap.size w wr := hw0.trans (hb.out.mono (by omega))
          by_cases hlt : j < cs.length
          · --D< app
            have hrr := HAA.out.below hwr
            obtain ⟨ab, ao, rfl, hblk, hcell⟩ := hrr.1.at_ (k := j) (fun _ => rfl) hlt
            obtain ⟨⟨qa, qc, hqv, hq1⟩, hq2, hq3⟩ := (hrr.2.2 _ (List.getElem_mem hlt)).more hwr.size
            have hn0 := HC0.out _ (List.getElem_mem hlt)
            obtain ⟨r, hre⟩ : ∃ t, cs[j] = t := ⟨_, rfl⟩
            have HRE := Lib.hid hre
            rw [hre] at hcell hqv hq1 hq2 hq3 hn0
            obtain ⟨qv, ts, says⟩ := r
            simp only at hqv hq1 hq2 hq3
            subst hqv
            have c0 : wr.cell? ⟨ab, ao + j * 2, none⟩ = some (.slice qa ts.length qc) := hcell 0 _ rfl
            have c1 : wr.cell? ⟨ab, ao + j * 2 + 1, none⟩ = some (.int .i64 says) := hcell 1 _ rfl
            have hj0 : (0 : Int) ≤ (j : Int) := by omega
            have hj1 : (j : Int) < (cs.length : Int) := by omega
            have hab : ab < w.heap.size := hblk
            have habr : ab < wr.heap.size := by omega
            have HT := fun W (hW : Below wr.heap.size wr W) => Lib.hid (ltests_any qa qc ts W hq2 (fun e => by subst e; exact hn0 _ _ rfl) (oneCell_tests _ hq3) ((hq1.below hW).more hW.size))
            have HOK := Lib.hid hq3
            have hown := Lib.hid HC.out.m.row
            have hql := Lib.hid (HC.out.len hj)
            have hnb : some ab ≠ (Value.slice q.ra q.rules.length q.rc).ownBlock := fun e => by have := own_ge hown.out e.symm; omega
            have hnb7 : some b7 ≠ (Value.slice q.ra q.rules.length q.rc).ownBlock := own_ne_blk hown.out g7 (by decide)
            clear hcell hre hrr hq1 hq3 hn0
            go_wp2_with fail
            refine wp_region_T (S := fun w' => w'.cell? ⟨ab, ao + j * 2, none⟩ = some (.slice qa ts.length qc) ∧ w'.cell? ⟨ab, ao + j * 2 + 1, none⟩ = some (.int .i64 says) ∧ w'.cell? ⟨b7, 4, none⟩ = some (.slice q.ra q.rules.length q.rc)) 18 (by kernel_rfl) (by kernel_rfl) (by kernel_rfl) (by kernel_rfl) (by decide) ⟨c0, c1, x4⟩ (fun hHeld => ?_)
            refine WT.takeD (i := 0) (d := some 86) (v := ?vv0) rfl rfl (by decide) (by kernel_rfl) (by kernel_rfl) (fun _ _ _ h => h) (Or.inl ⟨by rfl, ?hy0⟩) (by assumption) ?rest0
            case hy0 => (intro w hSw; (try dsimp only at hSw); go_simp; (try with_reducible rfl))
            try simp only [Act.put, List.setIfInBounds_toArray, List.set_cons_zero, List.set_cons_succ]
            refine WT.takeD (i := 1) (d := some 87) (v := ?vv1) rfl rfl (by decide) (by kernel_rfl) (by kernel_rfl) (fun _ _ _ h => h) (Or.inl ⟨by rfl, ?hy1⟩) (by assumption) ?rest1
            case hy1 => (intro w hSw; (try dsimp only at hSw); go_simp; (try with_reducible rfl))
            try simp only [Act.put, List.setIfInBounds_toArray, List.set_cons_zero, List.set_cons_succ]
            refine WT.takeD (i := 2) (d := some 88) (v := ?vv2) rfl rfl (by decide) (by kernel_rfl) (by kernel_rfl) (fun _ _ _ h => h) (Or.inl ⟨by rfl, ?hy2⟩) (by assumption) ?rest2
            case hy2 => (intro w hSw; (try dsimp only at hSw); go_simp; (try with_reducible rfl))
            try simp only [Act.put, List.setIfInBounds_toArray, List.set_cons_zero, List.set_cons_succ]
            refine WT.takeD (i := 3) (d := some 89) (v := ?vv3) rfl rfl (by decide) (by kernel_rfl) (by kernel_rfl) (fun _ _ _ h => h) (Or.inl ⟨by rfl, ?hy3⟩) (by assumption) ?rest3
            case hy3 => (intro w hSw; (try dsimp only at hSw); go_simp; (try with_reducible rfl))
            try simp only [Act.put, List.setIfInBounds_toArray, List.set_cons_zero, List.set_cons_succ]
            refine WT.takeD (i := 4) (d := some 90) (v := ?vv4) rfl rfl (by decide) (by kernel_rfl) (by kernel_rfl) (fun _ _ _ h => h) (Or.inl ⟨by rfl, ?hy4⟩) (by assumption) ?rest4
            case hy4 => (intro w hSw; (try dsimp only at hSw); go_simp; (try with_reducible rfl))
            try simp only [Act.put, List.setIfInBounds_toArray, List.set_cons_zero, List.set_cons_succ]
            refine WT.takeD (i := 5) (d := some 91) (v := ?vv5) rfl rfl (by decide) (by kernel_rfl) (by kernel_rfl) (fun _ _ _ h => h) (Or.inl ⟨by rfl, ?hy5⟩) (by assumption) ?rest5
            case hy5 => (intro w hSw; (try dsimp only at hSw); go_simp; (try with_reducible rfl))
            try simp only [Act.put, List.setIfInBounds_toArray, List.set_cons_zero, List.set_cons_succ]
            refine WT.takeD (i := 6) (d := some 92) (v := ?vv6) rfl rfl (by decide) (by kernel_rfl) (by kernel_rfl) (fun _ _ _ h => h) (Or.inl ⟨by rfl, ?hy6⟩) (by assumption) ?rest6
            case hy6 => (intro w hSw; (try dsimp only at hSw); go_simp; (try with_reducible rfl))
            try simp only [Act.put, List.setIfInBounds_toArray, List.set_cons_zero, List.set_cons_succ]
            refine WT.takeD (i := 8) (d := some 94) (v := ?vv8) rfl rfl (by decide) (by kernel_rfl) (by kernel_rfl) (fun _ _ _ h => h) (Or.inl ⟨by rfl, ?hy8⟩) (by assumption) ?rest8
            case hy8 => (intro w hSw; (try dsimp only at hSw); go_simp; (try with_reducible rfl))
            try simp only [Act.put, List.setIfInBounds_toArray, List.set_cons_zero, List.set_cons_succ]
            refine WT.takeD (i := 9) (d := some 95) (v := ?vv9) rfl rfl (by decide) (by kernel_rfl) (by kernel_rfl) (fun _ _ _ h => h) (Or.inl ⟨by rfl, ?hy9⟩) (by assumption) ?rest9
            case hy9 => (intro w hSw; (try dsimp only at hSw); go_simp; (try with_reducible rfl))
            try simp only [Act.put, List.setIfInBounds_toArray, List.set_cons_zero, List.set_cons_succ]
            refine WT.takeD (i := 10) (d := some 96) (v := ?vv10) rfl rfl (by decide) (by kernel_rfl) (by kernel_rfl) (fun _ _ _ h => h) (Or.inl ⟨by rfl, ?hy10⟩) (by assumption) ?rest10
            case hy10 => (intro w hSw; (try dsimp only at hSw); go_simp; (try with_reducible rfl))
            try simp only [Act.put, List.setIfInBounds_toArray, List.set_cons_zero, List.set_cons_succ]
            refine WT.takeD (i := 11) (d := some 97) (v := ?vv11) rfl rfl (by decide) (by kernel_rfl) (by kernel_rfl) (fun _ _ _ h => h) (Or.inl ⟨by rfl, ?hy11⟩) (by assumption) ?rest11
            case hy11 => (intro w hSw; (try dsimp only at hSw); go_simp; (try with_reducible rfl))
            try simp only [Act.put, List.setIfInBounds_toArray, List.set_cons_zero, List.set_cons_succ]
            refine WT.takeD (i := 12) (d := some 98) (v := ?vv12) rfl rfl (by decide) (by kernel_rfl) (by kernel_rfl) (fun _ _ _ h => h) (Or.inl ⟨by rfl, ?hy12⟩) (by assumption) ?rest12
            case hy12 => (intro w hSw; (try dsimp only at hSw); go_simp; (try with_reducible rfl))
            try simp only [Act.put, List.setIfInBounds_toArray, List.set_cons_zero, List.set_cons_succ]
            refine WT.takeD (i := 13) (d := some 99) (v := ?vv13) rfl rfl (by decide) (by kernel_rfl) (by kernel_rfl) (fun _ _ _ h => h) (Or.inl ⟨by rfl, ?hy13⟩) (by assumption) ?rest13
            case hy13 => (intro w hSw; (try dsimp only at hSw); go_simp; (try with_reducible rfl))
            try simp only [Act.put, List.setIfInBounds_toArray, List.set_cons_zero, List.set_cons_succ]
            refine WT.one (i := 7) rfl (by decide) (by kernel_rfl) (fun K hK => ?_)
            go_simp
            go_wp2_with (go_at_call 37; refine ((HT _ (by (repeat (first | exact Below.refl _ _ | assumption | (refine Below.alloc ?_ (by first | omega | (simp; omega) | (simp; done)) _) | (refine Below.setCell ?_ (by first | omega | (simp; omega) | (simp; done)) _) | (refine Below.drew ?_) | (refine belowN ?_ _) | (refine Below.trans ?_ (Below.mono ‹Below _ _ _› (by first | omega | (simp; omega) | (simp; done)))))))).out).mono ?_; rintro e w1 ⟨v1, rfl, hown1, hb1⟩; obtain ⟨A1, k1, hv1⟩ : ∃ A c, v1 = .slice A ts.length c := (by obtain ⟨A, c, h, _⟩ := Sl.of_own hown1; exact ⟨A, c, h⟩); subst hv1; have hyc : Below wr.heap.size wr w1 := Below.trans (by (repeat (first | exact Below.refl _ _ | assumption | (refine Below.alloc ?_ (by first | omega | (simp; omega) | (simp; done)) _) | (refine Below.setCell ?_ (by first | omega | (simp; omega) | (simp; done)) _) | (refine Below.drew ?_) | (refine belowN ?_ _) | (refine Below.trans ?_ (Below.mono ‹Below _ _ _› (by first | omega | (simp; omega) | (simp; done))))))) (hb1.mono (by simp)); have c0 := (hyc.cell (p := ⟨ab, ao + j * 2, none⟩) habr).trans c0; have c1 := (hyc.cell (p := ⟨ab, ao + j * 2 + 1, none⟩) habr).trans c1; have g7 := g7.below hyc hz7r; have x4 := g7.cell 4; simp at x4; have HCW := Lib.hid (HC.out.below hyc); have HO1 := Lib.hid hown1; have hzc := hyc.size; clear hown1)
            refine hK.out _ _ ⟨c0, c1, x4⟩ (fun hHeld => ?_)
            clear hK K
            refine WT.takeD (i := 14) (d := some 100) (v := ?vv14) rfl rfl (by decide) (by kernel_rfl) (by kernel_rfl) (fun _ _ _ h => h) (Or.inl ⟨by rfl, ?hy14⟩) (by assumption) ?rest14
            case hy14 => (intro w hSw; (try dsimp only at hSw); go_simp; (try with_reducible rfl))
            try simp only [Act.put, List.setIfInBounds_toArray, List.set_cons_zero, List.set_cons_succ]
            refine WT.one (i := 15) rfl (by decide) (by kernel_rfl) (fun K hK => ?_)
            go_simp
            refine hK.out _ _ ⟨(World.cell?_alloc_lt _ _ _ (by first | omega | (simp; omega) | (simp; done))).trans c0, (World.cell?_alloc_lt _ _ _ (by first | omega | (simp; omega) | (simp; done))).trans c1, (World.cell?_alloc_lt _ _ _ (by first | omega | (simp; omega) | (simp; done))).trans x4⟩ (fun hHeld => ?_)
            clear hK K
            refine WT.one (i := 16) rfl (by decide) (by kernel_rfl) (fun K hK => ?_)
            refine step_append_lies _ (by rfl) _ _ _ (by rfl) (b7 + 1) 82 i1 (.agg #[.slice none 0 0, .int .i64 0, .int .i64 0, .slice none 0 0, .int .i64 0]) 5 72 uRules hi1 iy0 iy1 iy2 rfl (by omega) _ _ _ (by rfl) (HCW.out.m.row.alloc _) ⟨w1.heap.size, 0, none⟩ 1 1 [.slice A1 ts.length k1, .int .i64 1, .int .i64 j, .slice none 0 0, .int .i64 says] (by rfl) (by rfl) (World.news_of_block (cs := #[.slice A1 ts.length k1, .int .i64 1, .int .i64 j, .slice none 0 0, .int .i64 says]) (t := 82) (fr := (0, 0)) (heap_alloc_new w1 _)) (by simp [Value.oneCell']) (by omega) (by have := hql.out; unfold maxLen; omega) (by have := hql.out; omega) (by simp; omega) (w1.heap.size + 1) (by simp) ?_
            intro gg cap w5 hown5 hgrow hat hgl
            have g75 := (g7.alloc (.cells #[.slice A1 ts.length k1, .int .i64 1, .int .i64 j, .slice none 0 0, .int .i64 says] 82)).grown hgrow hnb7
            have f4 := g75.free 4
            have x45 := g75.cell 4
            simp at x45
            have hblt : ab < (w1.alloc (.cells #[.slice A1 ts.length k1, .int .i64 1, .int .i64 j, .slice none 0 0, .int .i64 says] 82)).heap.size := by simp; omega
            have c05 : w5.cell? ⟨ab, ao + j * 2, none⟩ = some (.slice qa ts.length qc) := by rw [hgrow.cell_far _ hblt hnb]; exact (World.cell?_alloc_lt _ _ _ (by first | omega | (simp; omega) | (simp; done))).trans c0
            have c15 : w5.cell? ⟨ab, ao + j * 2 + 1, none⟩ = some (.int .i64 says) := by rw [hgrow.cell_far _ hblt hnb]; exact (World.cell?_alloc_lt _ _ _ (by first | omega | (simp; omega) | (simp; done))).trans c1
            refine hK.out _ _ ⟨c05, c15, x45⟩ (fun hHeld => ?_)
            clear hK K
            refine WT.takeD (i := 17) (d := some 103) (v := ?vv17) rfl rfl (by decide) (by kernel_rfl) (by kernel_rfl) (fun _ _ _ h => h) (Or.inl ⟨by rfl, ?hy17⟩) (by assumption) ?rest17
            case hy17 => (intro w hSw; (try dsimp only at hSw); go_simp; (try with_reducible rfl))
            try simp only [Act.put, List.setIfInBounds_toArray, List.set_cons_zero, List.set_cons_succ]
            refine WT.last rfl (by kernel_rfl) (by kernel_rfl) (fun K hK => ?_)
            go_simp
            refine hK.out _ _ ?_
            clear hK K
            have G75 := Lib.hid g75
            have HC5 := Lib.hid ((HCW.out.below ((Below.refl _ _).alloc (Nat.le_refl _) _)).appr hlt HRE.out (by omega) hown5 hgrow ((own_mono HO1.out).alloc _) hq2 HOK.out)
            have HB5 := Lib.hid (((hyc.mono (B' := b7) (by omega)).alloc (by omega) (.cells #[.slice A1 ts.length k1, .int .i64 1, .int .i64 j, .slice none 0 0, .int .i64 says] 82)).grown hgrow (by simp; omega) (fun g hg => by have := own_ge HCW.out.m.row hg; omega))
            go_wp2_with fail
            go_roundw
            case rel => exact ⟨j + 1, _, by omega, by go_num, Lib.hid ((hb.out.trans HB5.out).setCell (p := ⟨b7, 4, none⟩) (by show b7 ≤ b7; omega) _), Lib.hid (by have h := G75.out.set 4 (.slice (some ⟨gg, 0, none⟩) (q.rules.length + 1) cap); simpa using h), Lib.hid ⟨HC5.out.pl, HC5.out.m.putS ⟨_, G75.out⟩ (by decide) (by decide) (by decide) _ _⟩, by have := HB5.out.size; simp; omega⟩
            case measure => simp [intOf] <;> omega
            --D>
          · obtain rfl : j = cs.length := by omega
            have HCA2 := Lib.hid (csa_of HC.out)
            have g1 := g1b.below hb.out hz7
            have HOQ := Lib.hid (own_q HC.out.m HC.out.scv)
            have hw6 := hwr
            clear hb hlt hj HC x4 hw0 g1b HN2 hwr
            clear hzw i1 hi1 iy0 iy1 iy2
            rename World => W6
            (have s0 := g1.cell 0; have s1 := g1.cell 1; have s2 := g1.cell 2; have s3 := g1.cell 3; have s4 := g1.cell 4; simp at s0 s1 s2 s3 s4)
            rcases glossP_cases (kind := kind) HVA.out HCA.out with ⟨hgn, hgp⟩ | ⟨k, x, y, hk, hgp, hy, hwrong⟩
            · have h2 := HGP.out
              rw [hgp] at h2
              simp only [Prod.mk.injEq] at h2
              obtain ⟨rfl, rfl, rfl⟩ := h2
              have HGN := Lib.hid hgn
              clear hgn hgp HGP
              --D< same
              go_wp2_with (go_at_call 17; refine (HOWN.out _ hw6).mono ?_; rintro _ V1 ⟨p, rfl, hpl, hpm, -, hb1⟩; rw [(dbl_of hpl hpm).scv]; refine Hid.out ?_)
              obtain ⟨p', T0⟩ : ∃ p', Ont s kind p.ra p.rc W6.heap.size 0 V1 p' := ⟨_, ont_of hpl hpm⟩
              obtain ⟨P, hP⟩ : ∃ P, P = p.ra := ⟨_, rfl⟩
              obtain ⟨pc, hpc⟩ : ∃ P, P = p.rc := ⟨_, rfl⟩
              obtain ⟨base, hbase⟩ : ∃ b, b = W6.heap.size := ⟨_, rfl⟩
              rw [← hP, ← hpc, ← hbase] at T0
              rw [← hP, ← hpc]
              have hv1 := bl2 hw6 hb1
              have g7v := g7.below hb1 g7.lt
              have hz8 : b7 < base := by rw [hbase]; exact g7.lt
              have HQR0 : q.reads V1 base := by rw [hbase]; exact HCA2.out.m.reads.below hb1
              have HQN := Lib.hid HCA2.out.m.nil; have HQS := Lib.hid HCA2.out.scv; have HQP := Lib.hid HCA2.out.pl; have HQL := Lib.hid HCA2.out.m.len
              have hz9 : base ≤ V1.heap.size := by rw [hbase]; exact hb1.size
              clear hP hpc hpl hpm hbase hb1 G7 g7 g1 HCA2 hw6 s0 s1 s2 s3 s4
              refine Lib.hid ?_
              go_wp2_with fail
              obtain ⟨b14, hb14⟩ : ∃ b, b = V1.heap.size := ⟨_, rfl⟩
              rw [← hb14]
              refine gen_w (fun W => Below w.heap.size w W ∧ Blk W b7 #[.int .i64 s.places, .int .i64 s.signs, .int .i64 1, .int .i64 s.answers, .slice q.ra q.rules.length q.rc] 24 ∧ Blk W b14 #[.int .i64 s.places, .int .i64 s.signs, .int .i64 1, .int .i64 s.answers, .slice P s.rules.length pc] 24 ∧ Ont s kind P pc base 0 W p' ∧ q.reads W base ∧ base ≤ W.heap.size) ⟨bla hv1, g7v.alloc _, Blk.at_ hb14, T0.below ((Below.refl _ _).alloc (Nat.le_refl _) _), HQR0.below ((Below.refl _ _).alloc hz9 _), by simp; omega⟩ ?_
              clear hb14 g7v T0 HQR0 hz9 hv1
              rintro w5 ⟨hw5, g7v, gpv, T0, hqr, hz9⟩
              have HD0 := Lib.hid T0; have GP := Lib.hid gpv; have HQR := Lib.hid hqr
              clear T0 gpv hqr
              go_loopw [15] (fun i wr => ∃ (j : Nat) (q : Sch), j ≤ s.rules.length ∧ i = .int .i64 j ∧ Hid (Below base w5 wr) ∧ Hid (Blk wr b14 #[.int .i64 s.places, .int .i64 s.signs, .int .i64 1, .int .i64 s.answers, .slice P s.rules.length pc] 24) ∧ Hid (Ont s kind P pc base j wr q)) (fun i _ => s.rules.length - (intOf i).toNat)
              case atStart => exact ⟨0, _, by omega, rfl, Below.refl _ _, GP, HD0⟩
              case round =>
                obtain ⟨j, p, hj, rfl, hb, GP, HD⟩ := hrel
                have gp := GP.out
                (have y0 := gp.cell 0; have y1 := gp.cell 1; have y2 := gp.cell 2; have y3 := gp.cell 3; have y4 := gp.cell 4; simp at y0 y1 y2 y3 y4)
                by_cases hlt : j < s.rules.length
                · --D< put
                  obtain ⟨g, p', rfl, hgb, ⟨gc, gR⟩, f0, z0, HD'⟩ := HD.out.put hlt
                  have hkb := (HVA.out.rule j hlt).kinds
                  obtain ⟨r, hr⟩ : ∃ r, s.rules[j].kinds = r := ⟨_, rfl⟩
                  rw [hr] at z0 HD' hkb
                  have n7 : g ≠ b14 := blk_ne gR gp (by decide)
                  have hd0 : 0 ≤ r / 2 ^ kind.toNat := Int.ediv_nonneg hkb.1 (by have := Int.pow_pos (n := 2) (m := kind.toNat) (by omega); omega)
                  have hd1 : r / 2 ^ kind.toNat ≤ r := Int.ediv_le_self _ hkb.1
                  have hd2 : r < 16 := by
                    have h1 := HVA.out.kinds
                    refine Int.lt_of_lt_of_le hkb.2 ?_
                    obtain h | h | h | h : s.kinds = 1 ∨ s.kinds = 2 ∨ s.kinds = 3 ∨ s.kinds = 4 := by omega
                    all_goals (rw [h]; decide)
                  have hmn : min kind.toNat 64 = kind.toNat := by have := HVA.out.kinds; omega
                  have hbt : bits BinOp.and IntKind.i64 (r / 2 ^ min kind.toNat 64) 1 = r / 2 ^ kind.toNat % 2 := by rw [hmn]; exact bits_and1 (r / 2 ^ kind.toNat) hd0 (by omega)
                  clear hmn
                  have hj0 : (0 : Int) ≤ (j : Int) := by omega
                  have hj1 : (j : Int) < (s.rules.length : Int) := by omega
                  have hkw : IntKind.u64.wrap kind = kind := IntWalk.u64_in _ ⟨by omega, by have := HVA.out.kinds; omega⟩
                  have HD2 := Lib.hid HD'
                  clear HD' hr HD gR
                  go_wp2_with fail
                  go_region
                  all_goals (
                    go_wp2_with fail
                    go_roundw
                    case rel => exact ⟨j + 1, p', by omega, by go_num, Below.drew (hb.out.setCell (p := ⟨g, j * 5 + 1, none⟩) (by show base ≤ g; omega) _), GP.out.far ⟨g, j * 5 + 1, none⟩ (by show b14 ≠ g; exact Ne.symm n7) _, HD2.out.below (Below.drew (Below.refl _ _))⟩
                    case measure => simp [intOf] <;> omega)
                  --D>
                · obtain rfl : j = s.rules.length := by omega
                  --D< end
                  have hw6 : Below w.heap.size w wr := hw5.trans (hb.out.mono (by omega))
                  have g7 := g7v.below hb.out hz8
                  (have x0 := g7.cell 0; have x1 := g7.cell 1; have x2 := g7.cell 2; have x3 := g7.cell 3; have x4 := g7.cell 4; simp at x0 x1 x2 x3 x4)
                  have hz5 := hb.out.size
                  have HOQ2 := Lib.hid (fun W (hW : Below wr.heap.size wr W) => (by have h := own_new q W ((HQR.out.below (hb.out.trans (hW.mono (by omega)))).more (by have := hW.size; omega)) HQN.out HQL.out; rw [HQS.out] at h; exact h : Calls Try.prog 17 #[.agg #[.int .i64 s.places, .int .i64 s.signs, .int .i64 1, .int .i64 s.answers, .slice q.ra q.rules.length q.rc]] W (RetOwnN q W)))
                  have HPX := Lib.hid HD.out.scv; have HPP := Lib.hid HD.out.all; have HPR := Lib.hid HD.out.m.reads
                  clear HD HD0 hb HQR GP G7 hlt hj
                  have gpr := gp; have g7r := g7
                  go_wp2_with fail
                  go_region_held (fun W' => W'.cell? ⟨b14, 0, none⟩ = some (.int .i64 s.places) ∧ W'.cell? ⟨b14, 1, none⟩ = some (.int .i64 s.signs) ∧ W'.cell? ⟨b14, 2, none⟩ = some (.int .i64 1) ∧ W'.cell? ⟨b14, 3, none⟩ = some (.int .i64 s.answers) ∧ W'.cell? ⟨b14, 4, none⟩ = some (.slice P s.rules.length pc) ∧
                    W'.cell? ⟨b7, 0, none⟩ = some (.int .i64 s.places) ∧ W'.cell? ⟨b7, 1, none⟩ = some (.int .i64 s.signs) ∧ W'.cell? ⟨b7, 2, none⟩ = some (.int .i64 1) ∧ W'.cell? ⟨b7, 3, none⟩ = some (.int .i64 s.answers) ∧ W'.cell? ⟨b7, 4, none⟩ = some (.slice q.ra q.rules.length q.rc)) (exact ⟨y0, y1, y2, y3, y4, x0, x1, x2, x3, x4⟩)
                    (first | (go_at_call 17; refine (HOQ2.out _ (by (repeat (first | exact Below.refl _ _ | assumption | (refine Below.alloc ?_ (by first | omega | (simp; omega) | (simp; done)) _) | (refine Below.setCell ?_ (by first | omega | (simp; omega) | (simp; done)) _) | (refine Below.drew ?_) | (refine belowN ?_ _) | (refine Below.trans ?_ (Below.mono ‹Below _ _ _› (by first | omega | (simp; omega) | (simp; done)))))))).mono ?_; rintro _ V2 ⟨cc, rfl, hpl2, hm2, -, hbq⟩; have HPC2 : Hid (cc.pl = (casS s cs).pl) := (by rw [hpl2]; exact HQP.out : cc.pl = (casS s cs).pl); have HMC := Lib.hid hm2.reads; clear hpl2 hm2; have hv2 : Below wr.heap.size wr V2 := Below.trans (by (repeat (first | exact Below.refl _ _ | assumption | (refine Below.alloc ?_ (by first | omega | (simp; omega) | (simp; done)) _) | (refine Below.setCell ?_ (by first | omega | (simp; omega) | (simp; done)) _) | (refine Below.drew ?_) | (refine belowN ?_ _) | (refine Below.trans ?_ (Below.mono ‹Below _ _ _› (by first | omega | (simp; omega) | (simp; done))))))) (hbq.mono (by simp)); have gp := gpr.below hv2 gpr.lt; have g7 := g7r.below hv2 g7r.lt; (have y0 := gp.cell 0; have y1 := gp.cell 1; have y2 := gp.cell 2; have y3 := gp.cell 3; have y4 := gp.cell 4; simp at y0 y1 y2 y3 y4); (have x0 := g7.cell 0; have x1 := g7.cell 1; have x2 := g7.cell 2; have x3 := g7.cell 3; have x4 := g7.cell 4; simp at x0 x1 x2 x3 x4)) |
                     (go_at_call 34; refine (dfx_any HPX.out HV.out HVA.out HCA.out h30 HGN.out HPP.out HPC2.out HPR.out hv2 HMC.out (Below.refl _ _)).mono ?_; rintro _ V3 ⟨rfl, hbq⟩; have hv3 := bl2 hv2 hbq; have gp := gpr.below hv3 gpr.lt; have g7 := g7r.below hv3 g7r.lt; (have y0 := gp.cell 0; have y1 := gp.cell 1; have y2 := gp.cell 2; have y3 := gp.cell 3; have y4 := gp.cell 4; simp at y0 y1 y2 y3 y4); (have x0 := g7.cell 0; have x1 := g7.cell 1; have x2 := g7.cell 2; have x3 := g7.cell 3; have x4 := g7.cell 4; simp at x0 x1 x2 x3 x4)))
                  all_goals (
                    go_wp2_with (go_at_call 15; refine (known_any _).mono ?_; rintro _ Wk ⟨rfl, hbk'⟩)
                    go_ret
                    exact ⟨rfl, bl2 (bl2 hw6 hv3) hbk'⟩)
                  --D>
              --D>
            · have h2 := HGP.out
              rw [hgp] at h2
              simp only [Prod.mk.injEq] at h2
              obtain ⟨rfl, rfl, rfl⟩ := h2
              have HW := Lib.hid hwrong
              clear hgp HGP hwrong
              --D< wrong
              have n3 : (y == 0) = false := by simpa using hy
              have hcr : chartR s (k : Int) = (chartL s k, 0) := by
                have h1 := chartsC_i HVA.out
                have e : inB (k : Int) 0 (chartsN s.signs s.places.toNat - 1) = true := inB_iff.2 ⟨by omega, by omega⟩
                simp only [chartR, HV.out, e, if_true]
              have hcb := chartB_at HVA.out k
              have hcl : (chartL s k).length = s.places.toNat := digits_len _ _ _
              have hpb := HVA.out.places
              obtain ⟨i1, hi1, iy0, iy1, iy2⟩ := info_parts infoInt
              obtain ⟨ch, hch⟩ : ∃ ch, ch = chartL s k := ⟨_, rfl⟩
              rw [← hch] at hcr hcb hcl
              obtain ⟨n, hn⟩ : ∃ n, n = ch.length := ⟨_, rfl⟩
              have hn1 : 0 < n ∧ n ≤ 1000000 := by omega
              have HCHR := Lib.hid hcr; have HCB := Lib.hid hcb; have HCHE := Lib.hid hch; have HCN := Lib.hid hn.symm
              clear hcr hcb hcl hch hpb
              go_wp2_with (first | (go_at_call 17; refine (HOWN.out _ hw6).mono ?_; rintro _ V1 ⟨s', rfl, hpl, hr', -, hb1⟩; have HPL := Lib.hid hpl; have HR' := Lib.hid hr'.reads; clear hpl hr'; have hw7 := bl2 hw6 hb1; have g1 := g1.below hb1 g1.lt; (have s0 := g1.cell 0; have s1 := g1.cell 1; have s2 := g1.cell 2; have s3 := g1.cell 3; have s4 := g1.cell 4; simp at s0 s1 s2 s3 s4)) |
                (go_at_call 32; refine (chartF_any s' (k : Int) _ HR'.out).mono ?_; rw [← chartR_pl s', HPL.out, chartR_pl, HCHR.out]; rintro _ V2 ⟨A', c', rfl, hA', hb2⟩; refine Hid.out ?_))
              have hw8 := bl2 hw7 hb2
              have g1 := g1.below hb2 g1.lt
              rw [← hn]
              have HCA3 := Lib.hid hA'
              clear hA' HR' HPL s0 s1 s2 s3 s4 g7 G7 HCA2 HOQ hw6 hb1 hb2 hw7 hn n3 HCHR
              refine Lib.hid ?_
              go_wp2_with fail
              obtain ⟨b9, hb9⟩ : ∃ b, b = V2.heap.size := ⟨_, rfl⟩
              have hown0 : (V2.alloc (.cells #[] 3)).ownsRow V2.heap.size 3 1 (.slice (some ⟨V2.heap.size, 0, none⟩) 0 0) 0 [] := by
                have := World.ownsRow_made (e := 3) (size := 1) V2 #[] 0 (base := V2.heap.size) (by simp) (by simp) (by simp)
                simpa using this
              rw [← hb9] at hown0 ⊢
              refine gen_w (fun W => Below w.heap.size w W ∧ Blk W w.heap.size #[.int .i64 s.places, .int .i64 s.signs, .int .i64 s.kinds, .int .i64 s.answers, s.rv] 24 ∧ Sl intCell 1 W b9 A' ch ∧ W.ownsRow b9 3 1 (.slice (some ⟨b9, 0, none⟩) 0 0) 0 [] ∧ b9 < W.heap.size) ⟨bla hw8, g1.alloc _, by rw [hb9]; exact HCA3.out.below ((Below.refl _ _).alloc (Nat.le_refl _) _), hown0, by simp [hb9]⟩ ?_
              have hz8 : w.heap.size < b9 := by rw [hb9]; exact g1.lt
              clear g1 hw8 HCA3 hb9 hown0
              rintro w5 ⟨hw5, g1v, hca, hown, hz9⟩
              have HO9 := Lib.hid hown; have HCA4 := Lib.hid hca
              clear hown hca
              go_loopw [19, 20, 21, 22, 23] (fun v i _ _ _ wr => ∃ j : Nat, j ≤ cs.length ∧ i = .int .i64 j ∧ Hid (Below b9 w5 wr) ∧ Hid (wr.ownsRow b9 3 1 v (abI ch cs j).length (flat intCell (abI ch cs j))) ∧ b9 < wr.heap.size) (fun _ i _ _ _ _ => cs.length - (intOf i).toNat)
              case atStart => exact ⟨0, by omega, rfl, Below.refl _ _, HO9, hz9⟩
              case round =>
                obtain ⟨j, hj, rfl, hb, hown, hzr⟩ := hrel
                have hwr : Below w.heap.size w wr := hw5.trans (hb.out.mono (by omega))
                have g1 := g1v.below hb.out hz8
                (have s0 := g1.cell 0; have s1 := g1.cell 1; have s2 := g1.cell 2; have s3 := g1.cell 3; have s4 := g1.cell 4; simp at s0 s1 s2 s3 s4)
                by_cases hlt : j < cs.length
                · --D< about
                  have hrr := HAA.out.below hwr
                  obtain ⟨ab, ao, rfl, hblk, hcell⟩ := hrr.1.at_ (k := j) (fun _ => rfl) hlt
                  obtain ⟨⟨qa, qc, hqv, hq1⟩, hq2, hq3⟩ := (hrr.2.2 _ (List.getElem_mem hlt)).more hwr.size
                  have hn0 := HC0.out _ (List.getElem_mem hlt)
                  have hcc := List.all_eq_true.1 HCA.out _ (List.getElem_mem hlt)
                  have hsy := cas_says HVA.out HCA.out _ (List.getElem_mem hlt)
                  have HAB := Lib.hid (abL_succ (ch := ch) hlt)
                  obtain ⟨r, hre⟩ : ∃ t, cs[j] = t := ⟨_, rfl⟩
                  rw [hre] at hcell hqv hq1 hq2 hq3 hn0 hcc hsy HAB
                  obtain ⟨qv, ts, says⟩ := r
                  simp only at hqv hq1 hq2 hq3 hsy
                  subst hqv
                  obtain ⟨RQ, RM, hrd, hl1, hl2⟩ := cas_kd HV.out hcc HCB.out hsy.1 hsy.2
                  obtain ⟨hb', hbe⟩ : ∃ b, b = holdsB ch ts := ⟨_, rfl⟩
                  obtain ⟨kd, hkd⟩ : ∃ kd : Int, kd = if hb' then 1 else 2 := ⟨_, rfl⟩
                  rw [← hbe, ← hkd] at hrd
                  have HBE := Lib.hid hbe; have HKD := Lib.hid hkd; have HRD := Lib.hid hrd
                  have c0 : wr.cell? ⟨ab, ao + j * 2, none⟩ = some (.slice qa ts.length qc) := hcell 0 _ rfl
                  have c1 : wr.cell? ⟨ab, ao + j * 2 + 1, none⟩ = some (.int .i64 says) := hcell 1 _ rfl
                  have hj0 : (0 : Int) ≤ (j : Int) := by omega
                  have hj1 : (j : Int) < (cs.length : Int) := by omega
                  have hab : ab < w.heap.size := hblk
                  have habr : ab < wr.heap.size := by omega
                  have HT := fun W (hW : Below wr.heap.size wr W) => Lib.hid (ltests_any qa qc ts W hq2 (fun e => by subst e; exact hn0 _ _ rfl) (oneCell_tests _ hq3) ((hq1.below hW).more hW.size))
                  have HOK := Lib.hid hq3
                  have g1r := g1
                  clear hcell hre hrr hq1 hq3 hn0 hcc hrd hbe hkd
                  go_wp2_with fail
                  go_cut [21] (fun s21 wx => ∃ (b1 bR : Nat) (A1 : Option Addr) (k1 : Nat), s21 = .pointer (some ⟨b1, 0, none⟩) ∧ Hid (Below wr.heap.size wr wx) ∧ Hid (Blk wx b1 #[.int .i64 s.places, .int .i64 s.signs, .int .i64 1, .int .i64 s.answers, .slice (some ⟨bR, 0, none⟩) 1 1] 24) ∧ Hid (Blk wx bR #[.slice A1 ts.length k1, .int .i64 1, .int .i64 0, .slice none 0 0, .int .i64 says] 82) ∧ Hid (Sl Tst.cells 4 wx wx.heap.size A1 ts))
                  case first =>
                    --D< r34
                    have hS : ∀ W, Below wr.heap.size wr W → W.cell? ⟨ab, ao + j * 2, none⟩ = some (.slice qa ts.length qc) ∧ W.cell? ⟨ab, ao + j * 2 + 1, none⟩ = some (.int .i64 says) ∧ W.cell? ⟨w.heap.size, 0, none⟩ = some (.int .i64 s.places) ∧ W.cell? ⟨w.heap.size, 1, none⟩ = some (.int .i64 s.signs) ∧ W.cell? ⟨w.heap.size, 3, none⟩ = some (.int .i64 s.answers) := fun W hW =>
                      ⟨(hW.cell (p := ⟨ab, ao + j * 2, none⟩) habr).trans c0, (hW.cell (p := ⟨ab, ao + j * 2 + 1, none⟩) habr).trans c1, (hW.cell (p := ⟨w.heap.size, 0, none⟩) g1.lt).trans s0, (hW.cell (p := ⟨w.heap.size, 1, none⟩) g1.lt).trans s1, (hW.cell (p := ⟨w.heap.size, 3, none⟩) g1.lt).trans s3⟩
                    clear c0 c1 s0 s1 s2 s3 s4
                    refine' wp_region_plan 21 [20, 19, 18, 17, 16, 15, 14, 13, 12, 11, 10, 9, 8, 7, 6, 5, 4, 3, 2, 1, 0] [.eff, .eff, .eff, .eff, .eff, .eff, .eff, .eff, .eff, .eff, .eff, .eff, .eff, .eff, .eff, .eff, .eff, .eff, .eff, .eff, .eff, .last]
                      [Det _, Det _, Det _, Det _, Det _, Det _, Det _, Det _, Det _, Det _, Det _, fun x W => ∃ A k, x = .slice A ts.length k ∧ W.ownsRow 0 103 4 x ts.length (flat Tst.cells ts), Det _, Det _, Det _, Det _, Det _,
                       fun x W => ∃ A k, x = .agg #[.slice A ts.length k, .int .i64 1, .int .i64 0, .slice none 0 0, .int .i64 says] ∧ W.ownsRow 0 103 4 (.slice A ts.length k) ts.length (flat Tst.cells ts),
                       fun x W => ∃ A k b, x = .slice (some ⟨b, 0, none⟩) 1 1 ∧ W.ownsRow 0 103 4 (.slice A ts.length k) ts.length (flat Tst.cells ts) ∧ Blk W b #[.slice A ts.length k, .int .i64 1, .int .i64 0, .slice none 0 0, .int .i64 says] 82 ∧ wr.heap.size ≤ b,
                       fun x W => ∃ A k b, x = .agg #[.int .i64 s.places, .int .i64 s.signs, .int .i64 1, .int .i64 s.answers, .slice (some ⟨b, 0, none⟩) 1 1] ∧ W.ownsRow 0 103 4 (.slice A ts.length k) ts.length (flat Tst.cells ts) ∧ Blk W b #[.slice A ts.length k, .int .i64 1, .int .i64 0, .slice none 0 0, .int .i64 says] 82 ∧ wr.heap.size ≤ b,
                       fun x W => ∃ b, x = .pointer (some ⟨b, 0, none⟩) ∧ Blk W b #[.int .i64 0, .int .i64 0, .int .i64 0, .int .i64 0, .slice none 0 0] 24 ∧ wr.heap.size ≤ b, noF] rfl [(20, 21), (19, 188)] [(20, 21), (19, 188), (18, 187), (17, 186), (16, 185), (15, 184), (14, 183), (13, 182), (12, 181), (11, 180), (10, 179), (9, 178), (8, 177), (7, 176), (6, 175), (5, 174), (4, 173), (3, 172), (2, 171), (1, 170), (0, 169)] (by kernel_rfl) (by kernel_rfl) (by kernel_rfl) (by kernel_rfl) (by kernel_rfl) (by kernel_rfl) (by kernel_rfl) (by kernel_rfl) (by kernel_rfl) rfl ?hp ?hend ?hst
                    case hp =>
                      refine And.intro ⟨[], by kernel_rfl, fun xs W hW hf K hK => opV_free rfl ?_⟩ ?_
                      focus (have hs := hS W hW; (try simp only [factsL, pickF, Det, and_true] at hf); (try simp only [putL, Act.put, List.setIfInBounds_toArray, List.set_cons_zero, List.set_cons_succ]); (try simp only [hf]); go_simp; refine hK.out _ _ (Below.refl _ _) ?_; unfold Det; rfl)
                      refine And.intro ⟨[(0, 169)], by kernel_rfl, fun xs W hW hf K hK => opV_free rfl ?_⟩ ?_
                      focus (have hs := hS W hW; (try simp only [factsL, pickF, Det, and_true] at hf); (try simp only [putL, Act.put, List.setIfInBounds_toArray, List.set_cons_zero, List.set_cons_succ]); (try simp only [hf]); go_simp; refine hK.out _ _ (Below.refl _ _) ?_; unfold Det; rfl)
                      refine And.intro ⟨[], by kernel_rfl, fun xs W hW hf K hK => opV_free rfl ?_⟩ ?_
                      focus (have hs := hS W hW; (try simp only [factsL, pickF, Det, and_true] at hf); (try simp only [putL, Act.put, List.setIfInBounds_toArray, List.set_cons_zero, List.set_cons_succ]); (try simp only [hf]); go_simp; refine hK.out _ _ (Below.refl _ _) ?_; unfold Det; rfl)
                      refine And.intro ⟨[(2, 171)], by kernel_rfl, fun xs W hW hf K hK => opV_free rfl ?_⟩ ?_
                      focus (have hs := hS W hW; (try simp only [factsL, pickF, Det, and_true] at hf); (try simp only [putL, Act.put, List.setIfInBounds_toArray, List.set_cons_zero, List.set_cons_succ]); (try simp only [hf]); go_simp; refine hK.out _ _ (Below.refl _ _) ?_; unfold Det; rfl)
                      refine And.intro ⟨[], by kernel_rfl, fun xs W hW hf K hK => opV_free rfl ?_⟩ ?_
                      focus (have hs := hS W hW; (try simp only [factsL, pickF, Det, and_true] at hf); (try simp only [putL, Act.put, List.setIfInBounds_toArray, List.set_cons_zero, List.set_cons_succ]); (try simp only [hf]); go_simp; refine hK.out _ _ (Below.refl _ _) ?_; unfold Det; rfl)
                      refine And.intro ⟨[(4, 173)], by kernel_rfl, fun xs W hW hf K hK => opV_free rfl ?_⟩ ?_
                      focus (have hs := hS W hW; (try simp only [factsL, pickF, Det, and_true] at hf); (try simp only [putL, Act.put, List.setIfInBounds_toArray, List.set_cons_zero, List.set_cons_succ]); (try simp only [hf]); go_simp; refine hK.out _ _ (Below.refl _ _) ?_; unfold Det; rfl)
                      refine And.intro ⟨[], by kernel_rfl, fun xs W hW hf K hK => opV_free rfl ?_⟩ ?_
                      focus (have hs := hS W hW; (try simp only [factsL, pickF, Det, and_true] at hf); (try simp only [putL, Act.put, List.setIfInBounds_toArray, List.set_cons_zero, List.set_cons_succ]); (try simp only [hf]); go_simp; refine hK.out _ _ (Below.refl _ _) ?_; unfold Det; rfl)
                      refine And.intro ⟨[], by kernel_rfl, fun xs W hW hf K hK => opV_free rfl ?_⟩ ?_
                      focus (have hs := hS W hW; (try simp only [factsL, pickF, Det, and_true] at hf); (try simp only [putL, Act.put, List.setIfInBounds_toArray, List.set_cons_zero, List.set_cons_succ]); (try simp only [hf]); go_simp; refine hK.out _ _ (Below.refl _ _) ?_; unfold Det; rfl)
                      refine And.intro ⟨[(7, 176), (6, 175)], by kernel_rfl, fun xs W hW hf K hK => opV_free rfl ?_⟩ ?_
                      focus (have hs := hS W hW; (try simp only [factsL, pickF, Det, and_true] at hf); (try simp only [putL, Act.put, List.setIfInBounds_toArray, List.set_cons_zero, List.set_cons_succ]); (try simp only [hf]); go_simp; refine hK.out _ _ (Below.refl _ _) ?_; unfold Det; rfl)
                      refine And.intro ⟨[(8, 177)], by kernel_rfl, fun xs W hW hf K hK => opV_free rfl ?_⟩ ?_
                      focus (have hs := hS W hW; (try simp only [factsL, pickF, Det, and_true] at hf); (try simp only [putL, Act.put, List.setIfInBounds_toArray, List.set_cons_zero, List.set_cons_succ]); (try simp only [hf]); go_simp; refine hK.out _ _ (Below.refl _ _) ?_; unfold Det; rfl)
                      refine And.intro ⟨[(9, 178)], by kernel_rfl, fun xs W hW hf K hK => opV_free rfl ?_⟩ ?_
                      focus (have hs := hS W hW; (try simp only [factsL, pickF, Det, and_true] at hf); (try simp only [putL, Act.put, List.setIfInBounds_toArray, List.set_cons_zero, List.set_cons_succ]); (try simp only [hf]); go_simp; refine hK.out _ _ (Below.refl _ _) ?_; unfold Det; rfl)
                      refine And.intro ⟨[(10, 179)], by kernel_rfl, fun xs W hW hf K hK => opV_free rfl ?_⟩ ?_
                      · simp only [factsL, pickF, Det, and_true] at hf
                        (try simp only [putL, Act.put, List.setIfInBounds_toArray, List.set_cons_zero, List.set_cons_succ])
                        simp only [hf]
                        go_simp
                        refine ((HT W hW).out).mono ?_
                        rintro _ w1 ⟨v1, rfl, ho1, hb1⟩
                        obtain ⟨A, k, hv, -⟩ := Sl.of_own ho1
                        exact ⟨_, rfl, hK.out _ _ hb1 ⟨A, k, hv, own_mono ho1⟩⟩
                      refine And.intro ⟨[], by kernel_rfl, fun xs W hW hf K hK => opV_free rfl ?_⟩ ?_
                      focus (have hs := hS W hW; (try simp only [factsL, pickF, Det, and_true] at hf); (try simp only [putL, Act.put, List.setIfInBounds_toArray, List.set_cons_zero, List.set_cons_succ]); (try simp only [hf]); go_simp; refine hK.out _ _ (Below.refl _ _) ?_; unfold Det; rfl)
                      refine And.intro ⟨[], by kernel_rfl, fun xs W hW hf K hK => opV_free rfl ?_⟩ ?_
                      focus (have hs := hS W hW; (try simp only [factsL, pickF, Det, and_true] at hf); (try simp only [putL, Act.put, List.setIfInBounds_toArray, List.set_cons_zero, List.set_cons_succ]); (try simp only [hf]); go_simp; refine hK.out _ _ (Below.refl _ _) ?_; unfold Det; rfl)
                      refine And.intro ⟨[(13, 182), (12, 181)], by kernel_rfl, fun xs W hW hf K hK => opV_free rfl ?_⟩ ?_
                      focus (have hs := hS W hW; (try simp only [factsL, pickF, Det, and_true] at hf); (try simp only [putL, Act.put, List.setIfInBounds_toArray, List.set_cons_zero, List.set_cons_succ]); (try simp only [hf]); go_simp; refine hK.out _ _ (Below.refl _ _) ?_; unfold Det; rfl)
                      refine And.intro ⟨[(14, 183)], by kernel_rfl, fun xs W hW hf K hK => opV_free rfl ?_⟩ ?_
                      focus (have hs := hS W hW; (try simp only [factsL, pickF, Det, and_true] at hf); (try simp only [putL, Act.put, List.setIfInBounds_toArray, List.set_cons_zero, List.set_cons_succ]); (try simp only [hf]); go_simp; refine hK.out _ _ (Below.refl _ _) ?_; unfold Det; rfl)
                      refine And.intro ⟨[(15, 184)], by kernel_rfl, fun xs W hW hf K hK => opV_free rfl ?_⟩ ?_
                      focus (have hs := hS W hW; (try simp only [factsL, pickF, Det, and_true] at hf); (try simp only [putL, Act.put, List.setIfInBounds_toArray, List.set_cons_zero, List.set_cons_succ]); (try simp only [hf]); go_simp; refine hK.out _ _ (Below.refl _ _) ?_; unfold Det; rfl)
                      refine And.intro ⟨[(16, 185), (11, 180)], by kernel_rfl, fun xs W hW hf K hK => opV_free rfl ?_⟩ ?_
                      · simp only [factsL, pickF, Det, and_true] at hf
                        (try simp only [putL, Act.put, List.setIfInBounds_toArray, List.set_cons_zero, List.set_cons_succ])
                        obtain ⟨h1, A, k, h2, ho⟩ := hf
                        rw [h2] at ho
                        simp only [h1, h2]
                        go_simp
                        exact hK.out _ _ (Below.refl _ _) ⟨A, k, rfl, ho⟩
                      refine And.intro ⟨[(17, 186)], by kernel_rfl, fun xs W hW hf K hK => opV_free rfl ?_⟩ ?_
                      · simp only [factsL, pickF, Det, and_true] at hf
                        (try simp only [putL, Act.put, List.setIfInBounds_toArray, List.set_cons_zero, List.set_cons_succ])
                        obtain ⟨A, k, h2, ho⟩ := hf
                        simp only [h2]
                        go_simp
                        exact hK.out _ _ ((Below.refl _ _).alloc (Nat.le_refl _) _) ⟨A, k, _, rfl, ho.alloc _, Blk.new _ _ _, hW.size⟩
                      refine And.intro ⟨[(18, 187), (5, 174), (3, 172), (1, 170)], by kernel_rfl, fun xs W hW hf K hK => opV_free rfl ?_⟩ ?_
                      · simp only [factsL, pickF, Det, and_true] at hf
                        (try simp only [putL, Act.put, List.setIfInBounds_toArray, List.set_cons_zero, List.set_cons_succ])
                        obtain ⟨⟨A, k, b, h1, ho, hb, hz⟩, h2, h3, h4⟩ := hf
                        simp only [h1, h2, h3, h4]
                        go_simp
                        exact hK.out _ _ (Below.refl _ _) ⟨A, k, b, rfl, ho, hb, hz⟩
                      refine And.intro ⟨[], by kernel_rfl, fun xs W hW hf K hK => opV_free rfl ?_⟩ ?_
                      · simp only [factsL, pickF, Det, and_true] at hf
                        (try simp only [putL, Act.put, List.setIfInBounds_toArray, List.set_cons_zero, List.set_cons_succ])
                        go_simp
                        exact hK.out _ _ ((Below.refl _ _).alloc (Nat.le_refl _) _) ⟨_, rfl, Blk.new _ _ _, hW.size⟩
                      trivial
                    case hst =>
                      have hsO : ∀ f : Option Addr → Nat → Value, Stays (fun x W => ∃ A k, x = f A k ∧ W.ownsRow 0 103 4 (.slice A ts.length k) ts.length (flat Tst.cells ts)) := fun f x W W' ⟨A, k, h1, h2⟩ hb => ⟨A, k, h1, h2.kept (grown_of_below hb) (by cases A <;> simp [Value.ownBlock])⟩
                      have hsB : ∀ (f : Option Addr → Nat → Nat → Value) (g : Option Addr → Nat → Array Value), Stays (fun x W => ∃ A k b, x = f A k b ∧ W.ownsRow 0 103 4 (.slice A ts.length k) ts.length (flat Tst.cells ts) ∧ Blk W b (g A k) 82 ∧ wr.heap.size ≤ b) := fun f g x W W' ⟨A, k, b, h1, h2, h3, h4⟩ hb => ⟨A, k, b, h1, h2.kept (grown_of_below hb) (by cases A <;> simp [Value.ownBlock]), h3.below hb h3.lt, h4⟩
                      exact ⟨det_stays, det_stays, det_stays, det_stays, det_stays, det_stays, det_stays, det_stays, det_stays, det_stays, det_stays, fun x W W' ⟨A, k, h1, h2⟩ hb => ⟨A, k, h1, h2.kept (grown_of_below hb) (by rw [h1]; cases A <;> simp [Value.ownBlock])⟩, det_stays, det_stays, det_stays, det_stays, det_stays, hsO _, hsB _ _, hsB _ _, fun x W W' ⟨b, h1, h2, h3⟩ hb => ⟨b, h1, h2.below hb h2.lt, h3⟩, noF_stays, trivial⟩
                    case hend =>
                      intro xs W hW hf
                      simp only [factsA, Det, noF, Nat.zero_add, Nat.reduceAdd, and_true] at hf
                      obtain ⟨f0, f1, f2, f3, f4, f5, f6, f7, f8, f9, f10, -, f12, f13, f14, f15, f16, -, -, ⟨A1, k1, bR, f19, ho, hR, hzR⟩, ⟨b1, f20, hB, hzB⟩⟩ := hf
                      have hne : bR ≠ b1 := blk_ne hR hB (by decide)
                      refine opV_free rfl ?_
                      (simp only [putL, Act.put, upd, List.setIfInBounds_toArray, List.set_cons_zero, List.set_cons_succ])
                      simp only [f19, f20]
                      have hB0 := hB.free 0; have hB1 := hB.free 1; have hB2 := hB.free 2; have hB3 := hB.free 3; have hB4 := hB.free 4
                      have hC0 := hB.cell 0; have hC1 := hB.cell 1; have hC2 := hB.cell 2; have hC3 := hB.cell 3; have hC4 := hB.cell 4
                      simp at hC0 hC1 hC2 hC3 hC4
                      go_simp
                      go_wp2_with fail
                      go_meet
                      exact ⟨b1, bR, A1, k1, rfl, ((((hW.setCell (p := ⟨b1, 0, none⟩) hzB _).setCell (p := ⟨b1, 1, none⟩) hzB _).setCell (p := ⟨b1, 2, none⟩) hzB _).setCell (p := ⟨b1, 3, none⟩) hzB _).setCell (p := ⟨b1, 4, none⟩) hzB _,
                        by show Blk _ _ _ _; have h := ((((hB.set 0 (.int .i64 s.places)).set 1 (.int .i64 s.signs)).set 2 (.int .i64 1)).set 3 (.int .i64 s.answers)).set 4 (.slice (some ⟨bR, 0, none⟩) 1 1); simpa using h,
                        ((((hR.far ⟨b1, 0, none⟩ hne _).far ⟨b1, 1, none⟩ hne _).far ⟨b1, 2, none⟩ hne _).far ⟨b1, 3, none⟩ hne _).far ⟨b1, 4, none⟩ hne _,
                        by
                          have hbk : ∃ cs, Blk W b1 cs 24 := ⟨_, hB⟩
                          have h5 := own_put' (own_put' (own_put' (own_put' (own_put' ho hbk (by decide) 0 (.int .i64 s.places)) (bk_put hbk _ _ _) (by decide) 1 (.int .i64 s.signs)) (bk_put (bk_put hbk _ _ _) _ _ _) (by decide) 2 (.int .i64 1)) (bk_put (bk_put (bk_put hbk _ _ _) _ _ _) _ _ _) (by decide) 3 (.int .i64 s.answers)) (bk_put (bk_put (bk_put (bk_put hbk _ _ _) _ _ _) _ _ _) _ _ _) (by decide) 4 (.slice (some ⟨bR, 0, none⟩) 1 1)
                          obtain ⟨A, k, hv, hs⟩ := Sl.of_own h5
                          injection hv with h6 h7 h8
                          subst h6
                          exact hs⟩
                    --D>
                  case rest =>
                    obtain ⟨b1, bR, A1, k1, rfl, HB2, G1, GR, HTS⟩ := hcut
                    rename World => W5
                    --D< r35
                    have hb5 := HB2.out
                    have hz5 := hb5.size
                    have HCA5 : Hid (Sl intCell 1 W5 b9 A' ch) := ((HCA4.out.below hb.out).below (hb5.mono (by omega)) : Sl intCell 1 W5 b9 A' ch)
                    have hS : ∀ W, Below W5.heap.size W5 W → W.cell? ⟨b1, 0, none⟩ = some (.int .i64 s.places) ∧ W.cell? ⟨b1, 1, none⟩ = some (.int .i64 s.signs) ∧ W.cell? ⟨b1, 2, none⟩ = some (.int .i64 1) ∧ W.cell? ⟨b1, 3, none⟩ = some (.int .i64 s.answers) ∧ W.cell? ⟨b1, 4, none⟩ = some (.slice (some ⟨bR, 0, none⟩) 1 1) := fun W hW => by
                      have g := G1.out.below hW G1.out.lt
                      have c0 := g.cell 0; have c1 := g.cell 1; have c2 := g.cell 2; have c3 := g.cell 3; have c4 := g.cell 4
                      simp at c0 c1 c2 c3 c4
                      exact ⟨c0, c1, c2, c3, c4⟩
                    clear HB2 HT g1 g1r g1v s0 s1 s2 s3 s4 c0 c1
                    go_wp2_with fail
                    go_cut [22, 23] (fun s22 s23 wx => ∃ (rb : Nat) (RA RB : Option Addr) (ra rc : Nat), s22 = .pointer (some ⟨rb, 0, none⟩) ∧ s23 = .int .i64 0 ∧ Hid (Below W5.heap.size W5 wx) ∧ Hid (Blk wx rb #[.int .i64 kd, .slice RA RQ.length ra, .slice RB RM.length rc] 73))
                    case first =>
                      refine' wp_region_plan 8 [7, 5, 4, 3, 2, 1, 0] [.eff, .eff, .eff, .eff, .eff, .eff, .pur, .eff, .last, .post]
                        [Det _, Det _, fun x W => ∃ A c, x = .slice A n c ∧ Sl intCell 1 W W.heap.size A ch,
                         fun x W => ∃ RA ra RB rc, x = .tuple #[.agg #[.int .i64 kd, .slice RA RQ.length ra, .slice RB RM.length rc], .int .i64 0],
                         fun x W => ∃ RA ra RB rc, x = .tuple #[.agg #[.int .i64 kd, .slice RA RQ.length ra, .slice RB RM.length rc], .int .i64 0],
                         fun x W => ∃ RA ra RB rc, x = .agg #[.int .i64 kd, .slice RA RQ.length ra, .slice RB RM.length rc], Det (.int .i64 0),
                         fun x W => ∃ b, x = .pointer (some ⟨b, 0, none⟩) ∧ Blk W b #[.int .i64 0, .slice none 0 0, .slice none 0 0] 73 ∧ W5.heap.size ≤ b, noF, Det (.int .i64 0)] rfl [(7, 22), (5, 194)] [(9, 23), (7, 22), (6, 195), (5, 194), (4, 189), (3, 193), (2, 192), (1, 191), (0, 190)] (by kernel_rfl) (by kernel_rfl) (by kernel_rfl) (by kernel_rfl) (by kernel_rfl) (by kernel_rfl) (by kernel_rfl) (by kernel_rfl) (by kernel_rfl) rfl ?hp ?hend ?hst
                      case hp =>
                        refine And.intro ⟨[], by kernel_rfl, fun xs W hW hf K hK => opV_free rfl ?_⟩ ?_
                        focus (have hs := hS W hW; (try simp only [factsL, pickF, Det, and_true] at hf); (try simp only [putL, Act.put, List.setIfInBounds_toArray, List.set_cons_zero, List.set_cons_succ]); (try simp only [hf]); go_simp; refine hK.out _ _ (Below.refl _ _) ?_; unfold Det; rfl)
                        refine And.intro ⟨[], by kernel_rfl, fun xs W hW hf K hK => opV_free rfl ?_⟩ ?_
                        focus (have hs := hS W hW; (try simp only [factsL, pickF, Det, and_true] at hf); (try simp only [putL, Act.put, List.setIfInBounds_toArray, List.set_cons_zero, List.set_cons_succ]); (try simp only [hf]); go_simp; refine hK.out _ _ (Below.refl _ _) ?_; unfold Det; rfl)
                        refine And.intro ⟨[(1, 191)], by kernel_rfl, fun xs W hW hf K hK => opV_free rfl ?_⟩ ?_
                        · simp only [factsL, pickF, Det, and_true] at hf
                          (try simp only [putL, Act.put, List.setIfInBounds_toArray, List.set_cons_zero, List.set_cons_succ])
                          simp only [hf]
                          go_simp
                          refine (ints_sl (HCA5.out.below (hW.mono (by omega))) (by have := hW.size; omega) HCN.out hn1).mono ?_
                          rintro _ w1 ⟨A2, c2, rfl, hs2, hb2⟩
                          exact ⟨_, rfl, hK.out _ _ hb2 ⟨A2, c2, rfl, hs2⟩⟩
                        refine And.intro ⟨[(2, 192), (0, 190)], by kernel_rfl, fun xs W hW hf K hK => opV_free rfl ?_⟩ ?_
                        · simp only [factsL, pickF, Det, and_true] at hf
                          (try simp only [putL, Act.put, List.setIfInBounds_toArray, List.set_cons_zero, List.set_cons_succ])
                          obtain ⟨⟨A2, c2, h1, hs2⟩, h2⟩ := hf
                          simp only [h1, h2]
                          go_simp
                          refine (one_any c2 HRD.out (GR.out.below hW GR.out.lt) ((HTS.out.below hW).more hW.size) hq2 HOK.out hs2 HCN.out (by have := HCN.out; omega)).mono ?_
                          rintro _ w1 ⟨RA, ra, RB, rc, rfl, -, -, hb2⟩
                          exact ⟨_, rfl, hK.out _ _ hb2 ⟨RA, ra, RB, rc, rfl⟩⟩
                        refine And.intro ⟨[(3, 193)], by kernel_rfl, fun xs W hW hf K hK => opV_free rfl ?_⟩ ?_
                        · simp only [factsL, pickF, Det, and_true] at hf
                          (try simp only [putL, Act.put, List.setIfInBounds_toArray, List.set_cons_zero, List.set_cons_succ])
                          obtain ⟨RA, ra, RB, rc, h1⟩ := hf
                          simp only [h1]
                          go_simp
                          exact hK.out _ _ (Below.refl _ _) ⟨RA, ra, RB, rc, rfl⟩
                        refine And.intro ⟨[(4, 189)], by kernel_rfl, fun xs W hW hf K hK => opV_free rfl ?_⟩ ?_
                        · simp only [factsL, pickF, Det, and_true] at hf
                          (try simp only [putL, Act.put, List.setIfInBounds_toArray, List.set_cons_zero, List.set_cons_succ])
                          obtain ⟨RA, ra, RB, rc, h1⟩ := hf
                          simp only [h1]
                          go_simp
                          exact hK.out _ _ (Below.refl _ _) ⟨RA, ra, RB, rc, rfl⟩
                        refine And.intro ⟨[(4, 189)], by kernel_rfl, fun xs W hW hf => ⟨.int .i64 0, rfl, yields_free rfl (fun w => ?_)⟩⟩ ?_
                        · simp only [factsL, pickF, Det, and_true] at hf
                          (try simp only [putL, Act.put, List.setIfInBounds_toArray, List.set_cons_zero, List.set_cons_succ])
                          obtain ⟨RA, ra, RB, rc, h1⟩ := hf
                          simp only [h1]
                          go_simp
                        refine And.intro ⟨[], by kernel_rfl, fun xs W hW hf K hK => opV_free rfl ?_⟩ ?_
                        · simp only [factsL, pickF, Det, and_true] at hf
                          (try simp only [putL, Act.put, List.setIfInBounds_toArray, List.set_cons_zero, List.set_cons_succ])
                          go_simp
                          exact hK.out _ _ ((Below.refl _ _).alloc (Nat.le_refl _) _) ⟨_, rfl, Blk.new _ _ _, hW.size⟩
                        refine And.intro ⟨[(6, 195)], by kernel_rfl, fun xs W hW hf => ⟨.int .i64 0, rfl, yields_free rfl (fun w => ?_)⟩⟩ ?_
                        · simp only [factsL, pickF, Det, and_true] at hf
                          (try simp only [putL, Act.put, List.setIfInBounds_toArray, List.set_cons_zero, List.set_cons_succ])
                          simp only [hf]
                          go_simp
                        trivial
                      case hst =>
                        have hsl : Stays (fun x W => ∃ A c, x = .slice A n c ∧ Sl intCell 1 W W.heap.size A ch) := fun x W W' ⟨A, c, h1, h2⟩ hb => ⟨A, c, h1, (h2.below hb).more hb.size⟩
                        exact ⟨det_stays, det_stays, hsl, fun _ _ _ h _ => h, fun _ _ _ h _ => h, fun _ _ _ h _ => h, det_stays, fun x W W' ⟨b, h1, h2, h3⟩ hb => ⟨b, h1, h2.below hb h2.lt, h3⟩, noF_stays, det_stays, trivial⟩
                      case hend =>
                        intro xs W hW hf
                        simp only [factsA, Det, noF, Nat.zero_add, Nat.reduceAdd, and_true] at hf
                        obtain ⟨f0, f1, -, -, -, ⟨RA, ra, RB, rc, f5⟩, f6, ⟨rb, f7, hB, hzB⟩, -, f9⟩ := hf
                        refine opV_free rfl ?_
                        (simp only [putL, Act.put, upd, List.setIfInBounds_toArray, List.set_cons_zero, List.set_cons_succ])
                        simp only [f5, f7, f9]
                        have hB0 := hB.free 0; have hB1 := hB.free 1; have hB2 := hB.free 2
                        have hC0 := hB.cell 0; have hC1 := hB.cell 1; have hC2 := hB.cell 2
                        simp at hC0 hC1 hC2
                        go_simp
                        go_wp2_with fail
                        go_meet
                        exact ⟨rb, RA, RB, ra, rc, rfl, rfl, ((hW.setCell (p := ⟨rb, 0, none⟩) hzB _).setCell (p := ⟨rb, 1, none⟩) hzB _).setCell (p := ⟨rb, 2, none⟩) hzB _,
                          by show Blk _ _ _ _; have h := ((hB.set 0 (.int .i64 kd)).set 1 (.slice RA RQ.length ra)).set 2 (.slice RB RM.length rc); simpa using h⟩
                    --D>
                    case rest =>
                      obtain ⟨rb, RA, RB, ra, rc, rfl, rfl, HB6, GQ⟩ := hcut
                      rename World => W6
                      --D< r39
                      have hb6 : Below wr.heap.size wr W6 := hb5.trans (HB6.out.mono hz5)
                      have q0 := GQ.out.cell 0
                      simp at q0
                      have hzo : wr.heap.size ≤ W6.heap.size := hb6.size
                      have HO6 : Hid (W6.ownsRow b9 3 1 u19 (abI ch cs j).length (flat intCell (abI ch cs j))) := (hown.out.kept (grown_of_below hb6) (by cases hv : u19.ownBlock <;> simp) : W6.ownsRow b9 3 1 u19 _ _)
                      have HB66 : Hid (Below b9 w5 W6) := (hb.out.trans (hb6.mono (by omega)) : Below b9 w5 W6)
                      have hal : (abI ch cs j).length ≤ j := abI_len
                      have hbe := HBE.out
                      rw [← hbe] at HAB
                      have hkd := HKD.out
                      clear hS HTS GR G1 HCA5 HB6 GQ hb5 hb6 HBE HKD HRD hbe
                      cases hb' with
                      | false =>
                        obtain rfl : kd = 2 := hkd
                        go_wp2_with fail
                        go_roundw
                        case rel => exact ⟨j + 1, by omega, by go_num, HB66.out, (by
                          have e : abI ch cs (j + 1) = abI ch cs j := by simp only [abI, HAB.out]; rfl
                          rw [e]; exact HO6.out), by omega⟩
                        case measure => simp [intOf]; omega
                      | true =>
                        obtain rfl : kd = 1 := hkd
                        have HC5 : Hid (∀ (i : Nat) (u : Value), [Value.int .i64 (j : Int)][i]? = some u → (W6.alloc (.cells #[.int .i64 (j : Int)] 3)).cell? ((⟨W6.heap.size, 0, none⟩ : Addr).add i) = some u) := (fun i u hu => (by rw [Go.WideShapes.add_plain, Nat.zero_add, (Blk.new W6 _ _).cell i, ← hu]; simp))
                        go_wp2_with (at_builtin; refine wpList_append_own _ rfl _ _ 28 rfl b9 3 i1 (.int .i64 0) 1 8 uInts hi1 iy0 iy1 iy2 rfl (by decide) _ _ _ rfl (HO6.out.alloc _) ⟨W6.heap.size, 0, none⟩ 1 1 [.int .i64 (j : Int)] rfl rfl HC5.out (by simp [Value.oneCell']) (by unfold maxLen; omega) (by omega) (by simp; omega) ?_; intro v' w7 hown7 hgrow _)
                        have hb67 : Below b9 w5 w7 := (HB66.out.alloc (by have := HB66.out.size; omega) _).grown hgrow (by simp; have := HB66.out.size; omega) (fun g hg => own_ge HO6.out hg)
                        have hbz7 : W6.heap.size < w7.heap.size := by have := hgrow.size; simp at this; omega
                        go_wp2_with fail
                        go_roundw
                        case rel => exact ⟨j + 1, by omega, by go_num, hb67, (by
                          have e : abI ch cs (j + 1) = abI ch cs j ++ [(j : Int)] := by simp only [abI, HAB.out]; simp
                          rw [e]
                          show World.ownsRow _ _ _ _ _ _ _
                          simpa [flat] using hown7), by omega⟩
                        case measure => simp [intOf]; omega
                      --D>
                  --D>
                · obtain rfl : j = cs.length := by omega
                  --D< fin
                  obtain ⟨A9, c9, rfl, hs9⟩ := Sl.of_own hown.out
                  have HS9 := Lib.hid hs9
                  have HCA9 : Hid (Sl intCell 1 wr b9 A' ch) := (HCA4.out.below hb.out : Sl intCell 1 wr b9 A' ch)
                  obtain ⟨kd, RQ, RM, hrr, hRQ⟩ : ∃ kd RQ RM, readR s ch kind = (kd, RQ, RM, 0) ∧ RQ = bitsOf (ansN s 0 kind ch) := by
                    have hin : inB kind 0 (s.kinds - 1) = true := inB_iff.2 ⟨hk0, hk1⟩
                    exact ⟨kindOf ((List.range 20).filter (ansOf s 0 kind ch)), _, bitsOf (mainN s 0 kind ch), by simp only [readR, HV.out, HCB.out, hin, if_true], rfl⟩
                  have HRR9 := Lib.hid hrr; have HRQ := Lib.hid hRQ
                  have hS : ∀ W, Below wr.heap.size wr W → W.cell? ⟨w.heap.size, 0, none⟩ = some (.int .i64 s.places) ∧ W.cell? ⟨w.heap.size, 1, none⟩ = some (.int .i64 s.signs) ∧ W.cell? ⟨w.heap.size, 2, none⟩ = some (.int .i64 s.kinds) ∧ W.cell? ⟨w.heap.size, 3, none⟩ = some (.int .i64 s.answers) ∧ W.cell? ⟨w.heap.size, 4, none⟩ = some s.rv := fun W hW => by
                    have g := g1.below hW g1.lt
                    have c0 := g.cell 0; have c1 := g.cell 1; have c2 := g.cell 2; have c3 := g.cell 3; have c4 := g.cell 4
                    simp at c0 c1 c2 c3 c4
                    exact ⟨c0, c1, c2, c3, c4⟩
                  clear hrr hRQ hs9 HCA4 g1 g1v hlt hj hb HO9 hown s0 s1 s2 s3 s4
                  go_upto_region 40 with fail
                  go_cut [24, 11] (fun s24 s11 wx => ∃ (rb : Nat) (RA RB : Option Addr) (ra rc : Nat), s24 = .pointer (some ⟨rb, 0, none⟩) ∧ s11 = .int .i64 0 ∧ Hid (Below wr.heap.size wr wx) ∧ Hid (Blk wx rb #[.int .i64 kd, .slice RA RQ.length ra, .slice RB RM.length rc] 73) ∧ Hid (Sl intCell 1 wx wx.heap.size RA RQ))
                  case first =>
                    --D< r40
                    obtain ⟨s0, s1, s2, s3, s4⟩ := hS wr (Below.refl _ _)
                    go_wp2_with (first | (go_at_call 17; refine (HOWN.out _ hwr).mono ?_; rintro _ V1 ⟨s', rfl, hpl, hm, -, hb1⟩; have HPL := Lib.hid hpl; have HR' := Lib.hid hm.reads; clear hpl hm) |
                      (go_at_call 38; refine (ints_sl (HCA9.out.below (hb1.mono (by omega))) (by have := hb1.size; omega) HCN.out hn1).mono ?_; rintro _ V2 ⟨A2, c2, rfl, hs2, hb2⟩; have HS2 := Lib.hid hs2; clear hs2) |
                      (go_at_call 33; refine (rdn_any c2 HPL.out ((HR'.out.below hb2).more hb2.size) HS2.out HCN.out (by have := HCN.out; omega) HRR9.out).mono ?_; rintro _ V3 ⟨RA, ra, RB, rc, rfl, ho, -, hb3⟩; have HO3 := Lib.hid ho; clear ho))
                    have hb13 := bl2 (bl2 hb1 hb2) hb3
                    go_meet
              
                    exact ⟨V3.heap.size, RA, RB, ra, rc, rfl, rfl, bla hb13, Blk.new _ _ _, by
                      obtain ⟨A, k, hv, hs⟩ := Sl.of_own (HO3.out.alloc _)
                      injection hv with h6 h7 h8
                      subst h6
                      exact hs⟩
                    --D>
                  case rest =>
                    obtain ⟨rb, RA, RB, ra, rc, rfl, rfl, HB6, GQ, HSQ⟩ := hcut
                    rename World => W6
                    --D< sw
                    have hw6 := bl2 hwr HB6.out
                    have HSA : Hid (Sl intCell 1 W6 wr.heap.size A9 (abI ch cs cs.length)) := (HS9.out.below HB6.out : Sl intCell 1 W6 wr.heap.size A9 _)
                    have gq := GQ.out
                    have q0 := gq.cell 0; have q1 := gq.cell 1
                    simp at q0 q1
                    have hche := HCHE.out
                    clear HS9 hS HB6 GQ HCA9
                    cases HW.out with
                    | none h =>
                      have hI : abI ch cs cs.length = [] := by simp [abI, hche, h]
                      rw [hI] at HSA ⊢
                      clear h hI HW
                      simp only [List.length_nil] at HSA ⊢
                      go_wp2_with (go_at_call 15; refine (known_any _).mono ?_; rintro _ Wk ⟨rfl, hbk'⟩)
                      go_ret
                      exact ⟨rfl, bl2 hw6 hbk'⟩
                    | two a b r h =>
                      have hI : abI ch cs cs.length = (a : Int) :: (b : Int) :: r.map (fun (i : Nat) => (i : Int)) := by simp [abI, hche, h]
                      obtain ⟨gb, go, rfl, hgb, hc⟩ := HSA.out.at_ (fun _ => rfl) (k := 1) (by rw [hI]; simp)
                      have c1 := hc 0 (.int .i64 b) (by simp [intCell, hI])
                      obtain ⟨m, hm⟩ : ∃ m, m = (abI ch cs cs.length).length := ⟨_, rfl⟩
                      have hm2 : 1 < m := by rw [hm, hI]; simp
                      rw [← hm]
                      have m1 : decide (1 < (m : Int)) = true := by simp; omega
                      have m1' : decide (1 < m) = true := by simp; omega
                      have m2 : (1 : Int) < (m : Int) := by omega
                      simp only [Nat.one_mul, Nat.add_zero] at c1
                      clear h hI HW hc hm
                      go_wp2_with (go_at_call 15; refine (known_any _).mono ?_; rintro _ Wk ⟨rfl, hbk'⟩)
                      go_ret
                      exact ⟨rfl, bl2 hw6 hbk'⟩
                    | other a h ha hs =>
                      have hI : abI ch cs cs.length = [(a : Int)] := by simp [abI, hche, h]
                      obtain ⟨gb, go, rfl, hgb, hc⟩ := HSA.out.at_ (fun _ => rfl) (k := 0) (by rw [hI]; simp)
                      have c1 := hc 0 (.int .i64 a) (by simp [intCell, hI])
                      obtain ⟨m, hm⟩ : ∃ m, m = (abI ch cs cs.length).length := ⟨_, rfl⟩
                      rw [← hm]
                      rw [hI] at hm
                      obtain rfl : m = 1 := hm
                      have hrr := HAA.out.below hw6
                      obtain ⟨ab, ao, rfl, hblk, hcell⟩ := hrr.1.at_ (k := a) (fun _ => rfl) ha
                      have c2 := hcell 1 _ rfl
                      have hne : ∀ x, RQ = [x] → x ≠ cs[a].says := fun x hx => by
                        refine other_ans ((cas_says HVA.out HCA.out _ (List.getElem_mem ha)).1) hs ?_
                        rw [← hche, ← HRQ.out]; exact hx
                      obtain ⟨says, hsy⟩ : ∃ y, y = cs[a].says := ⟨_, rfl⟩
                      rw [← hsy] at hne c2
                      have ha0 : (0 : Int) ≤ (a : Int) := by omega
                      have ha1 : (a : Int) < (cs.length : Int) := by omega
                      simp only [Nat.zero_mul, Nat.add_zero] at c1
                      clear h hI HW hc hcell hrr hsy
                      by_cases hq : RQ.length = 1
                      · obtain ⟨x, rfl⟩ : ∃ x, RQ = [x] := by
                          match RQ, hq with
                          | [x], _ => exact ⟨x, rfl⟩
                        have hx := hne x rfl
                        obtain ⟨rb2, ro2, rfl, -, hc3⟩ := HSQ.out.at_ (fun _ => rfl) (k := 0) (by simp)
                        have c3 := hc3 0 (.int .i64 x) rfl
                        simp only [Nat.zero_mul, Nat.add_zero] at c3
                        have nx : (x != says) = true := by simpa using hx
                        have nx' : (x == says) = false := by simpa using hx
                        clear hc3 hne hx HSQ
                        go_wp2_with fail
                        (refine wp_region_ext (by kernel_rfl) (by kernel_rfl) ?_; (repeat (go_big_quiet_step((first | (go_at_call 15; with_reducible exact Calls.ext_of (known_any _)))))); with_reducible refine wpQuiet_nil ?_; intro w1 hw1; have hb1 := ext_below hw1; clear hw1)
                        go_wp2_with fail
                        go_ret
                        exact ⟨rfl, bl2 hw6 hb1⟩
                      · have nq : ((RQ.length : Int) != 1) = true := by simp; omega
                        have nq' : ((RQ.length : Int) == 1) = false := by simp; omega
                        go_wp2_with fail
                        (refine wp_region_ext (by kernel_rfl) (by kernel_rfl) ?_; (repeat (go_big_quiet_step((first | (go_at_call 15; with_reducible exact Calls.ext_of (known_any _)))))); with_reducible refine wpQuiet_nil ?_; intro w1 hw1; have hb1 := ext_below hw1; clear hw1)
                        go_wp2_with fail
                        go_ret
                        exact ⟨rfl, bl2 hw6 hb1⟩
                    --D>
                  --D>
              --D>
        --D>
      · obtain ⟨rfl, rfl, rfl⟩ := glossR_er HCR.out he
        have n1 : (er != 0) = true := by simpa using he
        clear he HCR
        --D< er
        go_wp2_with (go_at_call 15; refine (known_any _).mono ?_; rintro _ Wk ⟨rfl, hbk'⟩)
        go_ret
        exact ⟨rfl, bl2 hw hbk'⟩
        --D>
end Go.Proofs.Ytidlmbajpbbilaa

/- The law SchoolTotal: the walk. -/
import Derived.Test.YtidlmbajpbbilaaToA
import Derived.Deep.RegionHeld
import Derived.Deep.DeepCutAuto
namespace Go.Proofs.Ytidlmbajpbbilaa
open Go.RowKit

theorem clms_one {W : World} {b : Nat} {kind : Int} {A : Option Addr} {c : Nat} {sets : List Int} {tt cc : Bool} (hb : Blk W b #[.int .i64 kind, .slice A sets.length c, .bool tt, .bool cc] 43) (hq : Sl setCell1 1 W W.heap.size A sets) (hl : sets.length ≤ 1000000) (ho : ∀ x ∈ sets, IsU64 x) :
    ClmsRead W W.heap.size (some ⟨b, 0, none⟩) [⟨kind, A, c, sets, tt, cc⟩] := by
  refine ⟨⟨rfl, fun _ => ⟨b, 0, rfl, hb.lt, fun j u hu => ?_⟩⟩, by simp, fun q hq' => ?_⟩
  · rw [hb.cell, Nat.zero_add]; simpa [flat] using hu
  · obtain rfl : q = _ := by simpa using hq'
    exact ⟨hq, hl, ho⟩
theorem kn_any {s s' : Sch} {cs cs' : List Clm} {A' : Option Addr} (c' : Nat) {x1 x2 er : Int} {Wo Ws : World} (hpl : s'.pl = s.pl) (hpc : cs'.map Clm.pl = cs.map Clm.pl) (hr : s'.reads Wo Wo.heap.size) (hos : Below Wo.heap.size Wo Ws) (hA : ClmsRead Ws Ws.heap.size A' cs')
    (hcr : keepsR s cs = (x1, x2, er)) : Calls Try.prog 23 #[scv s' s'.rv, .slice A' cs'.length c'] Ws fun e w' => e = .returned (.tuple #[.int .i64 x1, .int .i64 x2, .int .i64 er]) ∧ Below Ws.heap.size Ws w' := by
  have h := keeps_any s' cs' A' c' Ws ((hr.below hos).more hos.size) hA
  rw [keeps_cong hpl hpc, hcr] at h; exact h
theorem rd_any {s s' : Sch} {A' : Option Addr} (c' : Nat) {kind kd : Int} {ch RQ RM : List Int} {n : Nat} {Wo W : World} (hpl : s'.pl = s.pl) (hr : s'.reads Wo Wo.heap.size) (hW : Below Wo.heap.size Wo W) (hA : Sl intCell 1 W W.heap.size A' ch) (hn : ch.length = n) (hl : ch.length ≤ 1000000)
    (hrr : readR s ch kind = (kd, RQ, RM, 0)) : Calls Try.prog 33 #[scv s' s'.rv, .slice A' n c', .int .i64 kind] W (RetRead (kd, RQ, RM, 0) W) := by
  have h := read_any s' ch kind A' c' W ((hr.below hW).more hW.size) hl hA
  rw [← readR_pl, hpl, readR_pl, hrr, hn] at h; exact h
set_option maxRecDepth 100000 in
set_option maxHeartbeats 8000000 in
theorem lwtotal_ok (s : Sch) (kind : Int) (A : Option Addr) (c : Nat) (sets : List Int) (tt cc : Bool) (Bq : Option Addr) (bc : Nat) (bs : List Int) (w : World) (HRR : Hid (s.wreads w w.heap.size)) (HN0 : Hid s.nil0) (HAA : Hid (Sl setCell1 1 w w.heap.size A sets)) (HO : Hid (∀ x ∈ sets, IsU64 x)) (HN : Hid (A = none → c = 0))
    (HBY : Hid (Sl byteCell 1 w w.heap.size Bq bs)) (HBV : Hid (∀ v ∈ bs, 0 ≤ v ∧ v < 256)) (hg : largeB s 600 = false) (h10 : sets.length ≤ 10) (hb10 : bs.length ≤ 10) :
    Calls Try.prog 7 #[scv s s.rv, .agg #[.int .i64 kind, .slice A sets.length c, .bool tt, .bool cc], .slice Bq bs.length bc] w fun e w' => e = .returned (.bool true) ∧ Below w.heap.size w w' := by
  obtain ⟨x1, x2, er, hcr⟩ : ∃ y1 y2 y3, keepsR s [⟨kind, A, c, sets, tt, cc⟩] = (y1, y2, y3) := ⟨_, _, _, rfl⟩
  have HCR := Lib.hid hcr
  clear hcr
  obtain ⟨hlen, hall, -⟩ := not_large hg
  have d1 : decide (10 < (sets.length : Int)) = false := by simp; omega
  have d1' : decide (10 < sets.length) = false := by simp; omega
  have d2 : decide (10 < (bs.length : Int)) = false := by simp; omega
  have d2' : decide (10 < bs.length) = false := by simp; omega
  have hrd := reads_of_weak HRR.out hlen hall
  have HR := Lib.hid hrd
  clear hrd hall
  go_enter Try.func7, Try.ntmps7
  go_wp2_with (go_at_call 14; refine (large_any s 600 _ ((HRR.out.below (by (repeat (first | exact Below.refl _ _ | assumption | (refine Below.alloc ?_ (by first | omega | (simp; omega) | (simp; done)) _) | (refine Below.setCell ?_ (by first | omega | (simp; omega) | (simp; done)) _) | (refine Below.drew ?_) | (refine belowN ?_ _) | (refine Below.trans ?_ (Below.mono ‹Below _ _ _› (by first | omega | (simp; omega) | (simp; done)))))))).more (by simp; omega))).mono ?_; rintro _ W1 ⟨rfl, hbx⟩; rw [hg]; have hw1 := bl2 (bla (bla (Below.refl _ _))) hbx; have g1 : Blk W1 w.heap.size #[.int .i64 s.places, .int .i64 s.signs, .int .i64 s.kinds, .int .i64 s.answers, s.rv] 24 := ((Blk.at_ rfl).alloc _).below hbx (by first | omega | (simp; omega) | (simp; done)); have g2 : Blk W1 (w.heap.size + 1) #[.int .i64 kind, .slice A sets.length c, .bool tt, .bool cc] 43 := (Blk.at_ (by simp)).below hbx (by first | omega | (simp; omega) | (simp; done)); (have s0 := g1.cell 0; have s1 := g1.cell 1; have s2 := g1.cell 2; have s3 := g1.cell 3; have s4 := g1.cell 4; have t0 := g2.cell 0; have t1 := g2.cell 1; have t2 := g2.cell 2; have t3 := g2.cell 3; simp at s0 s1 s2 s3 s4 t0 t1 t2 t3))
  have HOWN := Lib.hid (fun W (hW : Below w.heap.size w W) => own_any s W ((HR.out.below hW).more hW.size) HN0.out (by omega))
  have HCL := Lib.hid (fun W b (hW : Below w.heap.size w W) (hb : Blk W b #[.int .i64 kind, .slice A sets.length c, .bool tt, .bool cc] 43) => claims_any [⟨kind, A, c, sets, tt, cc⟩] (some ⟨b, 0, none⟩) 1 W (clms_one hb ((HAA.out.below hW).more hW.size) (by omega) HO.out) (fun q hq => by have e := List.mem_singleton.1 hq; subst e; exact HN.out) (by simp))
  clear hbx d1 d1' d2 d2'
  go_cut [7, 8, 9] (fun s7 s8 s9 wx => s7 = .int .i64 x1 ∧ s8 = .int .i64 x2 ∧ s9 = .int .i64 er ∧ Hid (Below w.heap.size w wx) ∧ Hid (Blk wx w.heap.size #[.int .i64 s.places, .int .i64 s.signs, .int .i64 s.kinds, .int .i64 s.answers, s.rv] 24) ∧ Hid (Blk wx (w.heap.size + 1) #[.int .i64 kind, .slice A sets.length c, .bool tt, .bool cc] 43))
  case first =>
    have g1b := g1; have g2b := g2; have lt2 := g2.lt
    have nz0 : W1.heap.size ≠ w.heap.size ∧ W1.heap.size ≠ w.heap.size + 1 := ⟨by omega, by omega⟩
    go_region_held (fun W' => W'.cell? ⟨w.heap.size, 0, none⟩ = some (.int .i64 s.places) ∧ W'.cell? ⟨w.heap.size, 1, none⟩ = some (.int .i64 s.signs) ∧ W'.cell? ⟨w.heap.size, 2, none⟩ = some (.int .i64 s.kinds) ∧ W'.cell? ⟨w.heap.size, 3, none⟩ = some (.int .i64 s.answers) ∧ W'.cell? ⟨w.heap.size, 4, none⟩ = some s.rv ∧ W'.cell? ⟨w.heap.size + 1, 0, none⟩ = some (.int .i64 kind) ∧ W'.cell? ⟨w.heap.size + 1, 1, none⟩ = some (.slice A sets.length c) ∧ W'.cell? ⟨w.heap.size + 1, 2, none⟩ = some (.bool tt) ∧ W'.cell? ⟨w.heap.size + 1, 3, none⟩ = some (.bool cc)) (first | exact ⟨s0, s1, s2, s3, s4, t0, t1, t2, t3⟩ | go_keep)
      (first | (go_at_call 17; refine (HOWN.out _ (bl2 hw1 (by (repeat (first | exact Below.refl _ _ | assumption | (refine Below.alloc ?_ (by first | omega | (simp; omega) | (simp; done)) _) | (refine Below.setCell ?_ (by first | omega | (simp; omega) | (simp; done)) _) | (refine Below.drew ?_) | (refine belowN ?_ _) | (refine Below.trans ?_ (Below.mono ‹Below _ _ _› (by first | omega | (simp; omega) | (simp; done))))))))).mono ?_; rintro _ Wo ⟨s', rfl, hpl, hr', -, hbq⟩; have HPL := Lib.hid hpl; have HR' := Lib.hid hr'; clear hpl hr'; have hxo : Below W1.heap.size W1 Wo := Below.trans (by (repeat (first | exact Below.refl _ _ | assumption | (refine Below.alloc ?_ (by first | omega | (simp; omega) | (simp; done)) _) | (refine Below.setCell ?_ (by first | omega | (simp; omega) | (simp; done)) _) | (refine Below.drew ?_) | (refine belowN ?_ _) | (refine Below.trans ?_ (Below.mono ‹Below _ _ _› (by first | omega | (simp; omega) | (simp; done))))))) (hbq.mono (by simp)); have g1 := g1b.below hxo g1b.lt; have g2 := g2b.below hxo g2b.lt; (have s0 := g1.cell 0; have s1 := g1.cell 1; have s2 := g1.cell 2; have s3 := g1.cell 3; have s4 := g1.cell 4; have t0 := g2.cell 0; have t1 := g2.cell 1; have t2 := g2.cell 2; have t3 := g2.cell 3; simp at s0 s1 s2 s3 s4 t0 t1 t2 t3); have nz1 : Wo.heap.size ≠ w.heap.size ∧ Wo.heap.size ≠ w.heap.size + 1 := (by have := hxo.size; omega); (first | (have gz : Blk Wo W1.heap.size #[.int .i64 kind, .slice A sets.length c, .bool tt, .bool cc] 43 := (Blk.new W1.drew _ _).below hbq (by simp)) | skip)) |
        (go_at_call 24; (first | refine (HCL.out _ W1.heap.size (bl2 hw1 (bl2 hxo (by (repeat (first | exact Below.refl _ _ | assumption | (refine Below.alloc ?_ (by first | omega | (simp; omega) | (simp; done)) _) | (refine Below.setCell ?_ (by first | omega | (simp; omega) | (simp; done)) _) | (refine Below.drew ?_) | (refine belowN ?_ _) | (refine Below.trans ?_ (Below.mono ‹Below _ _ _› (by first | omega | (simp; omega) | (simp; done))))))))) gz).mono ?_ | refine (HCL.out _ Wo.heap.size (bl2 hw1 (bl2 hxo (by (repeat (first | exact Below.refl _ _ | assumption | (refine Below.alloc ?_ (by first | omega | (simp; omega) | (simp; done)) _) | (refine Below.setCell ?_ (by first | omega | (simp; omega) | (simp; done)) _) | (refine Below.drew ?_) | (refine belowN ?_ _) | (refine Below.trans ?_ (Below.mono ‹Below _ _ _› (by first | omega | (simp; omega) | (simp; done))))))))) (Blk.new _ _ _)).mono ?_); rintro _ Ws ⟨A', c', cs', rfl, hpc, hA', hbq⟩; have hos : Below Wo.heap.size Wo Ws := Below.trans (by (repeat (first | exact Below.refl _ _ | assumption | (refine Below.alloc ?_ (by first | omega | (simp; omega) | (simp; done)) _) | (refine Below.setCell ?_ (by first | omega | (simp; omega) | (simp; done)) _) | (refine Below.drew ?_) | (refine belowN ?_ _) | (refine Below.trans ?_ (Below.mono ‹Below _ _ _› (by first | omega | (simp; omega) | (simp; done))))))) (hbq.mono (by simp)); have HKN := Lib.hid (kn_any c' HPL.out hpc HR'.out hos hA' HCR.out); clear hA' hpc; have hxs := bl2 hxo hos; have g1 := g1b.below hxs g1b.lt; have g2 := g2b.below hxs g2b.lt; (have s0 := g1.cell 0; have s1 := g1.cell 1; have s2 := g1.cell 2; have s3 := g1.cell 3; have s4 := g1.cell 4; have t0 := g2.cell 0; have t1 := g2.cell 1; have t2 := g2.cell 2; have t3 := g2.cell 3; simp at s0 s1 s2 s3 s4 t0 t1 t2 t3)) |
        (go_at_call 23; refine HKN.out.mono ?_; rintro _ Wk ⟨rfl, hbq⟩; have hxk : Below W1.heap.size W1 Wk := bl2 hxs hbq; have g1 := g1b.below hxk g1b.lt; have g2 := g2b.below hxk g2b.lt; (have s0 := g1.cell 0; have s1 := g1.cell 1; have s2 := g1.cell 2; have s3 := g1.cell 3; have s4 := g1.cell 4; have t0 := g2.cell 0; have t1 := g2.cell 1; have t2 := g2.cell 2; have t3 := g2.cell 3; simp at s0 s1 s2 s3 s4 t0 t1 t2 t3)))
    all_goals (
      go_wp2_with fail
      go_meet
      exact ⟨rfl, rfl, rfl, bl2 hw1 hxk, g1, g2⟩)
  case rest =>
    obtain ⟨rfl, rfl, rfl, HB, HG1, HG2⟩ := hcut
    clear hw1 g1 g2 s0 s1 s2 s3 s4 t0 t1 t2 t3
    clear W1
    rename World => W1
    have hw1 := HB.out; have g1 := HG1.out; have g2 := HG2.out
    clear HB HG1 HG2
    (have s0 := g1.cell 0; have s1 := g1.cell 1; have s2 := g1.cell 2; have s3 := g1.cell 3; have s4 := g1.cell 4; have t0 := g2.cell 0; have t1 := g2.cell 1; have t2 := g2.cell 2; have t3 := g2.cell 3; simp at s0 s1 s2 s3 s4 t0 t1 t2 t3)
    by_cases he : er = 0
    · obtain ⟨hv, hkb, hrb, hkp⟩ := keeps_one HCR.out he
      subst he
      have V := valid_of HR.out.oks hv
      have hpl : (sets.length : Int) = s.places := by simp only [regB, Bool.and_eq_true, decide_eq_true_eq] at hrb; exact hrb.1
      have HOK := Lib.hid hv; have HV := Lib.hid V; have HRB := Lib.hid hrb; have HKB := Lib.hid hkb
      clear hv V hrb hkb
      rcases hkp with ⟨k0, rfl, rfl, hk0, hin, hbd⟩ | ⟨rfl, rfl, hno⟩
      · have hcr : chartR s (k0 : Int) = (chartL s k0, 0) := by
          have h1 := chartsC_i HV.out
          have e : inB (k0 : Int) 0 (chartsN s.signs s.places.toNat - 1) = true := inB_iff.2 ⟨by omega, by omega⟩
          simp only [chartR, HOK.out, e, if_true]
        have hcb := chartB_at HV.out k0
        obtain ⟨RQ, RM, hrr, hrl⟩ := readR_at HOK.out HKB.out hcb rfl
        obtain ⟨kd, hkd⟩ : ∃ kd, kd = kdAt s kind k0 := ⟨_, rfl⟩
        rw [← hkd] at hrr
        have hbrk : Hid (brk tt cc kd = true) := (by rw [hkd]; exact hbd : brk tt cc kd = true)
        have HKD : Hid ((kd = 2 ∧ RQ.length = 0) ∨ (kd = 1 ∧ RQ.length = 1) ∨ (kd = 3 ∧ 1 < RQ.length)) := kd_cases hkd hrl
        obtain ⟨ch, hch⟩ : ∃ ch, ch = chartL s k0 := ⟨_, rfl⟩
        have hcl : ch.length = sets.length := by
          have h1 : (chartL s k0).length = s.places.toNat := digits_len _ _ _
          rw [hch]; omega
        have hin2 : hasB sets ch = true := by rw [hch]; exact hin
        have hcf : ∀ x ∈ ch, 0 ≤ x ∧ x ≤ 63 := by rw [hch]; exact chartL_bd HV.out k0
        rw [← hch] at hrr hcr
        have HCHR := Lib.hid hcr; have HRR2 := Lib.hid hrr; have HCL2 := Lib.hid hcl; have HIN := Lib.hid hin2; have HCF := Lib.hid hcf
        clear hcr hcb hrr hrl hkd hcl hin2 hcf hch hin hbd hk0
        go_wp2_with (first | (go_at_call 31; refine (chartOf_any A c sets Bq bc bs _ ((HAA.out.below hw1).more hw1.size) (by omega) HO.out ((HBY.out.below hw1).more hw1.size) HBV.out (by omega)).mono ?_; rintro _ W2 ⟨A0, c0, b0, L0, rfl, -, -, -, -, hb2⟩; have hw2 := bl2 hw1 hb2; have g1 := g1.below hb2 g1.lt; have g2 := g2.below hb2 g2.lt; (have s0 := g1.cell 0; have s1 := g1.cell 1; have s2 := g1.cell 2; have s3 := g1.cell 3; have s4 := g1.cell 4; have t0 := g2.cell 0; have t1 := g2.cell 1; have t2 := g2.cell 2; have t3 := g2.cell 3; simp at s0 s1 s2 s3 s4 t0 t1 t2 t3)) |
          (go_at_call 17; refine (HOWN.out _ hw2).mono ?_; rintro _ W3 ⟨s', rfl, hpl', hr', -, hb3⟩; have HPL := Lib.hid hpl'; have HR' := Lib.hid hr'; clear hpl' hr'; have hw3 := bl2 hw2 hb3; have g1 := g1.below hb3 g1.lt; have g2 := g2.below hb3 g2.lt; (have s0 := g1.cell 0; have s1 := g1.cell 1; have s2 := g1.cell 2; have s3 := g1.cell 3; have s4 := g1.cell 4; have t0 := g2.cell 0; have t1 := g2.cell 1; have t2 := g2.cell 2; have t3 := g2.cell 3; simp at s0 s1 s2 s3 s4 t0 t1 t2 t3)) |
          (go_at_call 32; refine (chartF_any s' (k0 : Int) _ HR'.out).mono ?_; rw [← chartR_pl s', HPL.out, chartR_pl, HCHR.out]; rintro _ W4 ⟨A', c', rfl, hA', hb4⟩; refine Hid.out ?_))
        have hw4 := bl2 hw3 hb4
        have g1 := g1.below hb4 g1.lt
        have g2 := g2.below hb4 g2.lt
        have HCA := Lib.hid hA'
        clear hA' HR' HPL s0 s1 s2 s3 s4 t0 t1 t2 t3
        rw [HCL2.out]
        refine gen_w (fun W => Below w.heap.size w W ∧ Blk W w.heap.size #[.int .i64 s.places, .int .i64 s.signs, .int .i64 s.kinds, .int .i64 s.answers, s.rv] 24 ∧ Blk W (w.heap.size + 1) #[.int .i64 kind, .slice A sets.length c, .bool tt, .bool cc] 43 ∧ Hid (Sl intCell 1 W W.heap.size A' ch)) ⟨hw4, g1, g2, HCA⟩ ?_
        clear g1 g2 hw4 hb4 hw3 hb3 hw2 hb2 hw1 HCA
        rintro Wl ⟨hwl, g1l, g2l, HCA⟩
        refine Lib.hid ?_
        have t1 : Wl.cell? ⟨w.heap.size + 1, 1, none⟩ = some (.slice A sets.length c) := by have := g2l.cell 1; simpa using this
        go_wp2_with fail
        go_loopw [12] (fun i wr => ∃ j : Nat, j ≤ sets.length ∧ i = .int .i64 j ∧ Below Wl.heap.size Wl wr) (fun i _ => sets.length - (intOf i).toNat)
        case atStart => exact ⟨0, by omega, rfl, Below.refl _ _⟩
        case round =>
          obtain ⟨j, hj, rfl, hb⟩ := hrel
          have hw1 : Below w.heap.size w wr := bl2 hwl hb
          have g1 := g1l.below hb g1l.lt
          have g2 := g2l.below hb g2l.lt
          by_cases hlt : j < sets.length
          · have hjc : j < ch.length := by rw [HCL2.out]; exact hlt
            have hbit := hasB_get sets ch HCL2.out HIN.out j hjc hlt
            have hfb := HCF.out _ (List.getElem_mem hjc)
            have hxb := HO.out _ (List.getElem_mem hlt)
            obtain ⟨ab, ao, hae, hblk, hcell⟩ := (HAA.out.below hw1).at_ (k := j) (fun _ => rfl) hlt
            obtain ⟨cb, co, hce, hblk2, hcell2⟩ := (HCA.out.below hb).at_ (k := j) (fun _ => rfl) hjc
            obtain ⟨x, hx⟩ : ∃ t, sets[j] = t := ⟨_, rfl⟩
            obtain ⟨f, hf⟩ : ∃ t, ch[j] = t := ⟨_, rfl⟩
            rw [hx] at hcell hxb hbit
            rw [hf] at hcell2 hfb hbit
            have hbt := bit_u64 x f hxb
            rw [hbit] at hbt
            have hbt : (bits BinOp.and IntKind.u64 (x / 2 ^ f.toNat) 1 == 0) = false := hbt
            unfold IsU64 at hxb
            have c0 : wr.cell? ⟨ab, ao + j, none⟩ = some (.int .u64 x) := by have := hcell 0 _ rfl; simpa using this
            have c1 : wr.cell? ⟨cb, co + j, none⟩ = some (.int .i64 f) := by have := hcell2 0 _ rfl; simpa using this
            have t1 : wr.cell? ⟨w.heap.size + 1, 1, none⟩ = some (.slice (some ⟨ab, ao, none⟩) sets.length c) := by have := g2.cell 1; rw [← hae]; simpa using this
            have hj0 : (0 : Int) ≤ (j : Int) := by omega
            have hj1 : (j : Int) < (sets.length : Int) := by omega
            obtain ⟨hf0, hf1⟩ := hfb
            obtain ⟨hx0, hx1⟩ := hxb
            have d0 : decide (f < 0) = false := by simp; omega
            have d1 : decide (63 < f) = false := by simp; omega
            have hw3 : IntKind.u64.wrap f = f := IntWalk.u64_in _ ⟨by omega, by omega⟩
            subst hce
            clear hcell hcell2 hx hf hbit hae
            go_wp2
            (refine wp_region_ext (by kernel_rfl) (by kernel_rfl) ?_; (repeat (go_big_quiet_step((fail)))); with_reducible refine wpQuiet_nil ?_; intro w2 hw2; have hb1 := ext_below hw2; clear hw2)
            go_wp2
            go_roundw
            case rel => exact ⟨j + 1, by omega, by go_num, bl2 hb hb1⟩
            case measure => simp [intOf] <;> omega
          · have HSA := Lib.hid (fun W (hW : Below wr.heap.size wr W) => (HCA.out.below (bl2 hb hW)).more (bl2 hb hW).size)
            clear t1 hwl g1l g2l
            rename World => W1
            go_wp2_with fail
            have g1b := g1; have g2b := g2; have lt2 := g2.lt
            (have s0 := g1.cell 0; have s1 := g1.cell 1; have s2 := g1.cell 2; have s3 := g1.cell 3; have s4 := g1.cell 4; have t0 := g2.cell 0; have t1 := g2.cell 1; have t2 := g2.cell 2; have t3 := g2.cell 3; simp at s0 s1 s2 s3 s4 t0 t1 t2 t3)
            have nz0 : W1.heap.size ≠ w.heap.size ∧ W1.heap.size ≠ w.heap.size + 1 := ⟨by omega, by omega⟩
            go_cut [9, 13] (fun s9 s13 wx => ∃ (rb : Nat) (RA RB : Option Addr) (ra rc : Nat), s9 = .int .i64 0 ∧ s13 = .pointer (some ⟨rb, 0, none⟩) ∧ Hid (Below w.heap.size w wx) ∧ Hid (Blk wx w.heap.size #[.int .i64 s.places, .int .i64 s.signs, .int .i64 s.kinds, .int .i64 s.answers, s.rv] 24) ∧ Hid (Blk wx (w.heap.size + 1) #[.int .i64 kind, .slice A sets.length c, .bool tt, .bool cc] 43) ∧ Hid (Blk wx rb #[.int .i64 kd, .slice RA RQ.length ra, .slice RB RM.length rc] 73))
            case first =>
              go_region_held (fun W' => W'.cell? ⟨w.heap.size, 0, none⟩ = some (.int .i64 s.places) ∧ W'.cell? ⟨w.heap.size, 1, none⟩ = some (.int .i64 s.signs) ∧ W'.cell? ⟨w.heap.size, 2, none⟩ = some (.int .i64 s.kinds) ∧ W'.cell? ⟨w.heap.size, 3, none⟩ = some (.int .i64 s.answers) ∧ W'.cell? ⟨w.heap.size, 4, none⟩ = some s.rv ∧ W'.cell? ⟨w.heap.size + 1, 0, none⟩ = some (.int .i64 kind)) (first | exact ⟨s0, s1, s2, s3, s4, t0⟩ | go_keep)
                (first | (go_at_call 17; refine (HOWN.out _ (bl2 hw1 (by (repeat (first | exact Below.refl _ _ | assumption | (refine Below.alloc ?_ (by first | omega | (simp; omega) | (simp; done)) _) | (refine Below.setCell ?_ (by first | omega | (simp; omega) | (simp; done)) _) | (refine Below.drew ?_) | (refine belowN ?_ _) | (refine Below.trans ?_ (Below.mono ‹Below _ _ _› (by first | omega | (simp; omega) | (simp; done))))))))).mono ?_; rintro _ Wo ⟨s', rfl, hpl, hr', -, hbq⟩; have HPL := Lib.hid hpl; have HR' := Lib.hid hr'; clear hpl hr'; have hxo : Below W1.heap.size W1 Wo := Below.trans (by (repeat (first | exact Below.refl _ _ | assumption | (refine Below.alloc ?_ (by first | omega | (simp; omega) | (simp; done)) _) | (refine Below.setCell ?_ (by first | omega | (simp; omega) | (simp; done)) _) | (refine Below.drew ?_) | (refine belowN ?_ _) | (refine Below.trans ?_ (Below.mono ‹Below _ _ _› (by first | omega | (simp; omega) | (simp; done))))))) (hbq.mono (by simp)); have g1 := g1b.below hxo g1b.lt; have g2 := g2b.below hxo g2b.lt; (have s0 := g1.cell 0; have s1 := g1.cell 1; have s2 := g1.cell 2; have s3 := g1.cell 3; have s4 := g1.cell 4; have t0 := g2.cell 0; have t1 := g2.cell 1; have t2 := g2.cell 2; have t3 := g2.cell 3; simp at s0 s1 s2 s3 s4 t0 t1 t2 t3); have nz1 : Wo.heap.size ≠ w.heap.size ∧ Wo.heap.size ≠ w.heap.size + 1 := (by have := hxo.size; omega); (first | (have gz : Blk Wo W1.heap.size #[.int .i64 0, .slice none 0 0, .slice none 0 0] 73 := (Blk.new W1.drew _ _).below hbq (by simp)) | skip)) |
                  (go_at_call 33; refine (rd_any c' HPL.out HR'.out (by (repeat (first | exact Below.refl _ _ | assumption | (refine Below.alloc ?_ (by first | omega | (simp; omega) | (simp; done)) _) | (refine Below.setCell ?_ (by first | omega | (simp; omega) | (simp; done)) _) | (refine Below.drew ?_) | (refine belowN ?_ _) | (refine Below.trans ?_ (Below.mono ‹Below _ _ _› (by first | omega | (simp; omega) | (simp; done))))))) (HSA.out _ (bl2 hxo (by (repeat (first | exact Below.refl _ _ | assumption | (refine Below.alloc ?_ (by first | omega | (simp; omega) | (simp; done)) _) | (refine Below.setCell ?_ (by first | omega | (simp; omega) | (simp; done)) _) | (refine Below.drew ?_) | (refine belowN ?_ _) | (refine Below.trans ?_ (Below.mono ‹Below _ _ _› (by first | omega | (simp; omega) | (simp; done))))))))) HCL2.out (by rw [HCL2.out]; omega) HRR2.out).mono ?_; rintro _ Wk ⟨RA, ra, RB, rc, rfl, -, -, hbq⟩; have hok : Below Wo.heap.size Wo Wk := Below.trans (by (repeat (first | exact Below.refl _ _ | assumption | (refine Below.alloc ?_ (by first | omega | (simp; omega) | (simp; done)) _) | (refine Below.setCell ?_ (by first | omega | (simp; omega) | (simp; done)) _) | (refine Below.drew ?_) | (refine belowN ?_ _) | (refine Below.trans ?_ (Below.mono ‹Below _ _ _› (by first | omega | (simp; omega) | (simp; done))))))) (hbq.mono (by simp)); have hxk := bl2 hxo hok; have g1 := g1b.below hxk g1b.lt; have g2 := g2b.below hxk g2b.lt; (have s0 := g1.cell 0; have s1 := g1.cell 1; have s2 := g1.cell 2; have s3 := g1.cell 3; have s4 := g1.cell 4; have t0 := g2.cell 0; have t1 := g2.cell 1; have t2 := g2.cell 2; have t3 := g2.cell 3; simp at s0 s1 s2 s3 s4 t0 t1 t2 t3); have nz2 : Wk.heap.size ≠ w.heap.size ∧ Wk.heap.size ≠ w.heap.size + 1 := (by have := hxk.size; omega); (first | (have gz := gz.below hbq gz.lt) | (have gz := (Blk.new _ _ _).below hbq (by simp)) | skip); (try (have f0 := gz.free 0; have f1 := gz.free 1; have f2 := gz.free 2; have y0 := gz.cell 0; have y1 := gz.cell 1; have y2 := gz.cell 2; simp at y0 y1 y2))))
              all_goals (
                go_wp2_with fail
                go_meet
                have hwk := bl2 hw1 hxk
                have e1 := hxo.size; have e2 := hok.size
                exact ⟨_, RA, RB, ra, rc, rfl, rfl, (by show Below _ _ _; (repeat (first | exact Below.refl _ _ | assumption | (refine Below.alloc ?_ (by first | omega | (simp; omega) | (simp; done)) _) | (refine Below.setCell ?_ (by first | omega | (simp; omega) | (simp; done)) _) | (refine Below.drew ?_) | (refine belowN ?_ _) | (refine Below.trans ?_ (Below.mono ‹Below _ _ _› (by first | omega | (simp; omega) | (simp; done))))))), (by show Blk _ _ _ _; first | exact g1.alloc _ | exact ((g1.far _ (by first | omega | (simp; omega) | (simp; done)) _).far _ (by first | omega | (simp; omega) | (simp; done)) _).far _ (by first | omega | (simp; omega) | (simp; done)) _), (by show Blk _ _ _ _; first | exact g2.alloc _ | exact ((g2.far _ (by first | omega | (simp; omega) | (simp; done)) _).far _ (by first | omega | (simp; omega) | (simp; done)) _).far _ (by first | omega | (simp; omega) | (simp; done)) _),
                  (by show Blk _ _ _ _; first | exact Blk.new _ _ _ | exact ((gz.set 0 _).set 1 _).set 2 _)⟩)
            case rest =>
              obtain ⟨rb, RA, RB, ra, rc, rfl, rfl, HB5, HG15, HG25, HGR⟩ := hcut
              rename World => W5
              have g1 := HG15.out; have g2 := HG25.out
              have gr := HGR.out
              clear HG15 HG25 HGR s0 s1 s2 s3 s4 t0 t1 t2 t3
              rcases HKD.out with ⟨hk5, hl5⟩ | ⟨hk5, hl5⟩ | ⟨hk5, hl5⟩
              · rw [hk5, hl5] at gr
                rw [hk5] at hbrk
                clear hk5 hl5
                (have s0 := g1.cell 0; have s1 := g1.cell 1; have s2 := g1.cell 2; have s3 := g1.cell 3; have s4 := g1.cell 4; have t0 := g2.cell 0; have t1 := g2.cell 1; have t2 := g2.cell 2; have t3 := g2.cell 3; simp at s0 s1 s2 s3 s4 t0 t1 t2 t3)
                have r0 := gr.cell 0; have r1 := gr.cell 1
                simp at r0 r1
                cases tt <;> cases cc
                all_goals (
                  first |
                    (exact absurd hbrk.out (by decide)) |
                    (clear hbrk
                     go_wp2_with (go_at_call 15; refine (known_any _).mono ?_; rintro _ Wk ⟨rfl, hbk'⟩)
                     go_ret
                     exact ⟨rfl, bl2 HB5.out hbk'⟩))
              · rw [hk5, hl5] at gr
                rw [hk5] at hbrk
                clear hk5 hl5
                (have s0 := g1.cell 0; have s1 := g1.cell 1; have s2 := g1.cell 2; have s3 := g1.cell 3; have s4 := g1.cell 4; have t0 := g2.cell 0; have t1 := g2.cell 1; have t2 := g2.cell 2; have t3 := g2.cell 3; simp at s0 s1 s2 s3 s4 t0 t1 t2 t3)
                have r0 := gr.cell 0; have r1 := gr.cell 1
                simp at r0 r1
                cases tt <;> cases cc
                all_goals (
                  first |
                    (exact absurd hbrk.out (by decide)) |
                    (clear hbrk
                     go_wp2_with (go_at_call 15; refine (known_any _).mono ?_; rintro _ Wk ⟨rfl, hbk'⟩)
                     go_ret
                     exact ⟨rfl, bl2 HB5.out hbk'⟩))
              · obtain ⟨m, hm⟩ : ∃ m, m = RQ.length := ⟨_, rfl⟩
                rw [hk5, ← hm] at gr
                rw [hk5] at hbrk
                have m1 : 1 < m := by omega
                have m2 : ((m : Int) == 0) = false := by simp; omega
                have m3 : ((m : Int) == 1) = false := by simp; omega
                have m4 : decide (1 < (m : Int)) = true := by simp; omega
                have m4' : decide (1 < m) = true := by simp; omega
                clear hk5 hl5 hm
                (have s0 := g1.cell 0; have s1 := g1.cell 1; have s2 := g1.cell 2; have s3 := g1.cell 3; have s4 := g1.cell 4; have t0 := g2.cell 0; have t1 := g2.cell 1; have t2 := g2.cell 2; have t3 := g2.cell 3; simp at s0 s1 s2 s3 s4 t0 t1 t2 t3)
                have r0 := gr.cell 0; have r1 := gr.cell 1
                simp at r0 r1
                cases tt <;> cases cc
                all_goals (
                  first |
                    (exact absurd hbrk.out (by decide)) |
                    (clear hbrk
                     go_wp2_with (go_at_call 15; refine (known_any _).mono ?_; rintro _ Wk ⟨rfl, hbk'⟩)
                     go_ret
                     exact ⟨rfl, bl2 HB5.out hbk'⟩))
      · have HNO := Lib.hid hno
        clear hno
        go_wp2_with (go_at_call 31; refine (chartOf_any A c sets Bq bc bs _ ((HAA.out.below hw1).more hw1.size) (by omega) HO.out ((HBY.out.below hw1).more hw1.size) HBV.out (by omega)).mono ?_; rintro _ W2 ⟨A', c', b, ch, rfl, hA', hyes, -, -, hb2⟩; refine Hid.out ?_)
        have hw2 := bl2 hw1 hb2
        have g1 := g1.below hb2 g1.lt
        have g2 := g2.below hb2 g2.lt
        cases b with
        | false =>
          clear hA' hyes
          refine Lib.hid ?_
          go_wp2_with (go_at_call 15; refine (known_any _).mono ?_; rintro _ Wk ⟨rfl, hbk'⟩)
          go_ret
          exact ⟨rfl, bl2 hw2 hbk'⟩
        | true =>
          obtain ⟨hcl, hpk⟩ := hyes rfl
          obtain ⟨hcb, k, hk, hck, hik⟩ := picked_chart HOK.out HV.out HO.out HRB.out hcl hpk
          obtain ⟨RQ, RM, hrr, hrl⟩ := readR_at HOK.out HKB.out hcb hck
          have hbad := HNO.out k hk
          rw [badC_brk hik] at hbad
          obtain ⟨kd, hkd⟩ : ∃ kd, kd = kdAt s kind k := ⟨_, rfl⟩
          rw [← hkd] at hrr
          have hbrk : Hid (brk tt cc kd = false) := (by rw [hkd]; exact hbad : brk tt cc kd = false)
          have HKD : Hid ((kd = 2 ∧ RQ.length = 0) ∨ (kd = 1 ∧ RQ.length = 1) ∨ (kd = 3 ∧ 1 < RQ.length)) := kd_cases hkd hrl
          have HRR2 := Lib.hid hrr; have HCL2 := Lib.hid hcl
          rw [hcl]
          have HSA := Lib.hid (fun W (hW : Below W2.heap.size W2 W) => (hA'.below hW).more hW.size)
          clear hA' hyes hcl hpk hcb hck hik hrr hrl hbad hkd hw1 hb2 s0 s1 s2 s3 s4 t0 t1 t2 t3 hk
          rename World => W1
          have hw1 := hw2
          clear hw2
          refine Lib.hid ?_
          go_wp2_with fail
          have g1b := g1; have g2b := g2; have lt2 := g2.lt
          (have s0 := g1.cell 0; have s1 := g1.cell 1; have s2 := g1.cell 2; have s3 := g1.cell 3; have s4 := g1.cell 4; have t0 := g2.cell 0; have t1 := g2.cell 1; have t2 := g2.cell 2; have t3 := g2.cell 3; simp at s0 s1 s2 s3 s4 t0 t1 t2 t3)
          have nz0 : W1.heap.size ≠ w.heap.size ∧ W1.heap.size ≠ w.heap.size + 1 := ⟨by omega, by omega⟩
          go_cut [9, 13] (fun s9 s13 wx => ∃ (rb : Nat) (RA RB : Option Addr) (ra rc : Nat), s9 = .int .i64 0 ∧ s13 = .pointer (some ⟨rb, 0, none⟩) ∧ Hid (Below w.heap.size w wx) ∧ Hid (Blk wx w.heap.size #[.int .i64 s.places, .int .i64 s.signs, .int .i64 s.kinds, .int .i64 s.answers, s.rv] 24) ∧ Hid (Blk wx (w.heap.size + 1) #[.int .i64 kind, .slice A sets.length c, .bool tt, .bool cc] 43) ∧ Hid (Blk wx rb #[.int .i64 kd, .slice RA RQ.length ra, .slice RB RM.length rc] 73))
          case first =>
            go_region_held (fun W' => W'.cell? ⟨w.heap.size, 0, none⟩ = some (.int .i64 s.places) ∧ W'.cell? ⟨w.heap.size, 1, none⟩ = some (.int .i64 s.signs) ∧ W'.cell? ⟨w.heap.size, 2, none⟩ = some (.int .i64 s.kinds) ∧ W'.cell? ⟨w.heap.size, 3, none⟩ = some (.int .i64 s.answers) ∧ W'.cell? ⟨w.heap.size, 4, none⟩ = some s.rv ∧ W'.cell? ⟨w.heap.size + 1, 0, none⟩ = some (.int .i64 kind)) (first | exact ⟨s0, s1, s2, s3, s4, t0⟩ | go_keep)
              (first | (go_at_call 17; refine (HOWN.out _ (bl2 hw1 (by (repeat (first | exact Below.refl _ _ | assumption | (refine Below.alloc ?_ (by first | omega | (simp; omega) | (simp; done)) _) | (refine Below.setCell ?_ (by first | omega | (simp; omega) | (simp; done)) _) | (refine Below.drew ?_) | (refine belowN ?_ _) | (refine Below.trans ?_ (Below.mono ‹Below _ _ _› (by first | omega | (simp; omega) | (simp; done))))))))).mono ?_; rintro _ Wo ⟨s', rfl, hpl, hr', -, hbq⟩; have HPL := Lib.hid hpl; have HR' := Lib.hid hr'; clear hpl hr'; have hxo : Below W1.heap.size W1 Wo := Below.trans (by (repeat (first | exact Below.refl _ _ | assumption | (refine Below.alloc ?_ (by first | omega | (simp; omega) | (simp; done)) _) | (refine Below.setCell ?_ (by first | omega | (simp; omega) | (simp; done)) _) | (refine Below.drew ?_) | (refine belowN ?_ _) | (refine Below.trans ?_ (Below.mono ‹Below _ _ _› (by first | omega | (simp; omega) | (simp; done))))))) (hbq.mono (by simp)); have g1 := g1b.below hxo g1b.lt; have g2 := g2b.below hxo g2b.lt; (have s0 := g1.cell 0; have s1 := g1.cell 1; have s2 := g1.cell 2; have s3 := g1.cell 3; have s4 := g1.cell 4; have t0 := g2.cell 0; have t1 := g2.cell 1; have t2 := g2.cell 2; have t3 := g2.cell 3; simp at s0 s1 s2 s3 s4 t0 t1 t2 t3); have nz1 : Wo.heap.size ≠ w.heap.size ∧ Wo.heap.size ≠ w.heap.size + 1 := (by have := hxo.size; omega); (first | (have gz : Blk Wo W1.heap.size #[.int .i64 0, .slice none 0 0, .slice none 0 0] 73 := (Blk.new W1.drew _ _).below hbq (by simp)) | skip)) |
                (go_at_call 33; refine (rd_any c' HPL.out HR'.out (by (repeat (first | exact Below.refl _ _ | assumption | (refine Below.alloc ?_ (by first | omega | (simp; omega) | (simp; done)) _) | (refine Below.setCell ?_ (by first | omega | (simp; omega) | (simp; done)) _) | (refine Below.drew ?_) | (refine belowN ?_ _) | (refine Below.trans ?_ (Below.mono ‹Below _ _ _› (by first | omega | (simp; omega) | (simp; done))))))) (HSA.out _ (bl2 hxo (by (repeat (first | exact Below.refl _ _ | assumption | (refine Below.alloc ?_ (by first | omega | (simp; omega) | (simp; done)) _) | (refine Below.setCell ?_ (by first | omega | (simp; omega) | (simp; done)) _) | (refine Below.drew ?_) | (refine belowN ?_ _) | (refine Below.trans ?_ (Below.mono ‹Below _ _ _› (by first | omega | (simp; omega) | (simp; done))))))))) HCL2.out (by rw [HCL2.out]; omega) HRR2.out).mono ?_; rintro _ Wk ⟨RA, ra, RB, rc, rfl, -, -, hbq⟩; have hok : Below Wo.heap.size Wo Wk := Below.trans (by (repeat (first | exact Below.refl _ _ | assumption | (refine Below.alloc ?_ (by first | omega | (simp; omega) | (simp; done)) _) | (refine Below.setCell ?_ (by first | omega | (simp; omega) | (simp; done)) _) | (refine Below.drew ?_) | (refine belowN ?_ _) | (refine Below.trans ?_ (Below.mono ‹Below _ _ _› (by first | omega | (simp; omega) | (simp; done))))))) (hbq.mono (by simp)); have hxk := bl2 hxo hok; have g1 := g1b.below hxk g1b.lt; have g2 := g2b.below hxk g2b.lt; (have s0 := g1.cell 0; have s1 := g1.cell 1; have s2 := g1.cell 2; have s3 := g1.cell 3; have s4 := g1.cell 4; have t0 := g2.cell 0; have t1 := g2.cell 1; have t2 := g2.cell 2; have t3 := g2.cell 3; simp at s0 s1 s2 s3 s4 t0 t1 t2 t3); have nz2 : Wk.heap.size ≠ w.heap.size ∧ Wk.heap.size ≠ w.heap.size + 1 := (by have := hxk.size; omega); (first | (have gz := gz.below hbq gz.lt) | (have gz := (Blk.new _ _ _).below hbq (by simp)) | skip); (try (have f0 := gz.free 0; have f1 := gz.free 1; have f2 := gz.free 2; have y0 := gz.cell 0; have y1 := gz.cell 1; have y2 := gz.cell 2; simp at y0 y1 y2))))
            all_goals (
              go_wp2_with fail
              go_meet
              have hwk := bl2 hw1 hxk
              have e1 := hxo.size; have e2 := hok.size
              exact ⟨_, RA, RB, ra, rc, rfl, rfl, (by show Below _ _ _; (repeat (first | exact Below.refl _ _ | assumption | (refine Below.alloc ?_ (by first | omega | (simp; omega) | (simp; done)) _) | (refine Below.setCell ?_ (by first | omega | (simp; omega) | (simp; done)) _) | (refine Below.drew ?_) | (refine belowN ?_ _) | (refine Below.trans ?_ (Below.mono ‹Below _ _ _› (by first | omega | (simp; omega) | (simp; done))))))), (by show Blk _ _ _ _; first | exact g1.alloc _ | exact ((g1.far _ (by first | omega | (simp; omega) | (simp; done)) _).far _ (by first | omega | (simp; omega) | (simp; done)) _).far _ (by first | omega | (simp; omega) | (simp; done)) _), (by show Blk _ _ _ _; first | exact g2.alloc _ | exact ((g2.far _ (by first | omega | (simp; omega) | (simp; done)) _).far _ (by first | omega | (simp; omega) | (simp; done)) _).far _ (by first | omega | (simp; omega) | (simp; done)) _),
                (by show Blk _ _ _ _; first | exact Blk.new _ _ _ | exact ((gz.set 0 _).set 1 _).set 2 _)⟩)
          case rest =>
            obtain ⟨rb, RA, RB, ra, rc, rfl, rfl, HB5, HG15, HG25, HGR⟩ := hcut
            rename World => W5
            have g1 := HG15.out; have g2 := HG25.out
            have gr := HGR.out
            clear HG15 HG25 HGR s0 s1 s2 s3 s4 t0 t1 t2 t3
            rcases HKD.out with ⟨hk5, hl5⟩ | ⟨hk5, hl5⟩ | ⟨hk5, hl5⟩
            · rw [hk5, hl5] at gr
              rw [hk5] at hbrk
              clear hk5 hl5
              (have s0 := g1.cell 0; have s1 := g1.cell 1; have s2 := g1.cell 2; have s3 := g1.cell 3; have s4 := g1.cell 4; have t0 := g2.cell 0; have t1 := g2.cell 1; have t2 := g2.cell 2; have t3 := g2.cell 3; simp at s0 s1 s2 s3 s4 t0 t1 t2 t3)
              have r0 := gr.cell 0; have r1 := gr.cell 1
              simp at r0 r1
              cases tt <;> cases cc
              all_goals (
                first |
                  (exact absurd hbrk.out (by decide)) |
                  (clear hbrk
                   go_wp2_with (go_at_call 15; refine (known_any _).mono ?_; rintro _ Wk ⟨rfl, hbk'⟩)
                   go_ret
                   exact ⟨rfl, bl2 HB5.out hbk'⟩))
            · rw [hk5, hl5] at gr
              rw [hk5] at hbrk
              clear hk5 hl5
              (have s0 := g1.cell 0; have s1 := g1.cell 1; have s2 := g1.cell 2; have s3 := g1.cell 3; have s4 := g1.cell 4; have t0 := g2.cell 0; have t1 := g2.cell 1; have t2 := g2.cell 2; have t3 := g2.cell 3; simp at s0 s1 s2 s3 s4 t0 t1 t2 t3)
              have r0 := gr.cell 0; have r1 := gr.cell 1
              simp at r0 r1
              cases tt <;> cases cc
              all_goals (
                first |
                  (exact absurd hbrk.out (by decide)) |
                  (clear hbrk
                   go_wp2_with (go_at_call 15; refine (known_any _).mono ?_; rintro _ Wk ⟨rfl, hbk'⟩)
                   go_ret
                   exact ⟨rfl, bl2 HB5.out hbk'⟩))
            · obtain ⟨m, hm⟩ : ∃ m, m = RQ.length := ⟨_, rfl⟩
              rw [hk5, ← hm] at gr
              rw [hk5] at hbrk
              have m1 : 1 < m := by omega
              have m2 : ((m : Int) == 0) = false := by simp; omega
              have m3 : ((m : Int) == 1) = false := by simp; omega
              have m4 : decide (1 < (m : Int)) = true := by simp; omega
              have m4' : decide (1 < m) = true := by simp; omega
              clear hk5 hl5 hm
              (have s0 := g1.cell 0; have s1 := g1.cell 1; have s2 := g1.cell 2; have s3 := g1.cell 3; have s4 := g1.cell 4; have t0 := g2.cell 0; have t1 := g2.cell 1; have t2 := g2.cell 2; have t3 := g2.cell 3; simp at s0 s1 s2 s3 s4 t0 t1 t2 t3)
              have r0 := gr.cell 0; have r1 := gr.cell 1
              simp at r0 r1
              cases tt <;> cases cc
              all_goals (
                first |
                  (exact absurd hbrk.out (by decide)) |
                  (clear hbrk
                   go_wp2_with (go_at_call 15; refine (known_any _).mono ?_; rintro _ Wk ⟨rfl, hbk'⟩)
                   go_ret
                   exact ⟨rfl, bl2 HB5.out hbk'⟩))
    · obtain ⟨rfl, rfl⟩ := keeps_err HCR.out he
      have n1 : (er != 0) = true := by simpa using he
      clear he
      go_wp2_with (go_at_call 15; refine (known_any _).mono ?_; rintro _ Wk ⟨rfl, hbk'⟩)
      go_ret
      exact ⟨rfl, bl2 hw1 hbk'⟩
end Go.Proofs.Ytidlmbajpbbilaa

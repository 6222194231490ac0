/- The law SchoolEnough: the walk. -/
import Derived.Test.YtidlmbajpbbilaaEnA
import Derived.Deep.DeepCutAuto
namespace Go.Proofs.Ytidlmbajpbbilaa
open Go.RowKit

theorem min_yes' {s s' : Sch} (h : s'.pl = s.pl) (hv : schB s = true) {w w' : World} {e : Ending} (hm : MinRet s' w e w') : ∃ R, MinOk s R ∧ RetSlE (minL s R) 0 w e w' := by
  have h1 : ∀ O, sameB s' O = sameB s O := fun O => by rw [← sameB_pl s', h, sameB_pl]
  have hl : s'.rules.length = s.rules.length := by have := congrArg (fun x => x.rules.length) h; simpa [len_pl] using this
  have h2 : ∀ O i, stepM s' O i = stepM s O i := fun O i => by simp only [stepM, h1]
  have h3 : ∀ O k, stepsM s' O k = stepsM s O k := fun O k => by
    induction k with
    | zero => rfl
    | succ k ih => simp only [stepsM, h2, ih, hl]
  have h4 : ∀ O, passM s' O = passM s O := fun O => by simp only [passM, h3, hl]
  have h5 : ∀ j, passes s' j = passes s j := fun j => by
    induction j with
    | zero => rfl
    | succ j ih => simp only [passes, h4, ih]
  have hv' : schB s' = true := by rw [← schB_pl, h, schB_pl]; exact hv
  simp only [MinRet, hv', if_true] at hm
  obtain ⟨R, ⟨h6, j, h7⟩, h8⟩ := hm
  refine ⟨R, ⟨by rw [← h4]; exact h6, j, by rw [← h5]; exact h7⟩, ?_⟩
  have : minL s' R = minL s R := by simp only [minL, hl]
  rw [← this]; exact h8
theorem min_no' {s s' : Sch} (h : s'.pl = s.pl) (hv : schB s = false) {w w' : World} {e : Ending} (hm : MinRet s' w e w') : RetSlE [] 2 w e w' := by
  have hv' : schB s' = false := by rw [← schB_pl, h, schB_pl]; exact hv
  simpa [MinRet, hv'] using hm
theorem idle_cong' {s s' : Sch} (h : s'.pl = s.pl) : idleR s' = idleR s := by rw [← idleR_pl s', h, idleR_pl]
set_option maxRecDepth 100000 in
set_option maxHeartbeats 8000000 in
theorem lwenough_no (s : Sch) (at8 : Int) (w : World) (HRR : Hid (s.wreads w w.heap.size)) (HN0 : Hid s.nil0) (hg : largeB s 300 = false) (hv : schB s = false) : Calls Try.prog 13 #[scv s s.rv, .int .u8 at8] w fun e w' => e = .returned (.bool true) ∧ Below w.heap.size w w' := by
  have HV := Lib.hid hv
  have HID : Hid (idleR s = ([], 2)) := (by simp [idleR, hv] : idleR s = ([], 2))
  obtain ⟨hlen, hall, -⟩ := not_large hg
  have HR := Lib.hid (reads_of_weak HRR.out hlen hall)
  clear hall
  go_enter Try.func13, Try.ntmps13
  go_wp2_with (first | (go_at_call 14; refine (large_any s 300 _ ((HRR.out.below (by (repeat (first | exact Below.refl _ _ | assumption | (refine Below.alloc ?_ (by first | omega | (simp; omega) | (simp; done)) _) | (refine Below.setCell ?_ (by first | omega | (simp; omega) | (simp; done)) _) | (refine Below.drew ?_) | (refine belowN ?_ _) | (refine Below.trans ?_ (Below.mono ‹Below _ _ _› (by first | omega | (simp; omega) | (simp; done)))))))).more (by simp))).mono ?_; rintro _ W1 ⟨rfl, hbx⟩; rw [hg]; have hw1 := bl2 (bla (Below.refl _ _)) hbx; have g1 : Blk W1 w.heap.size #[.int .i64 s.places, .int .i64 s.signs, .int .i64 s.kinds, .int .i64 s.answers, s.rv] 24 := (Blk.at_ rfl).below hbx (by first | omega | (simp; omega) | (simp; done)); (have s0 := g1.cell 0; have s1 := g1.cell 1; have s2 := g1.cell 2; have s3 := g1.cell 3; have s4 := g1.cell 4; simp at s0 s1 s2 s3 s4)) |
    (have _ := hw3; go_at_call 17; refine (own_any s _ ((HR.out.below hw3).more hw3.size) HN0.out (by omega)).mono ?_; rintro _ W4 ⟨s'', rfl, hpl, hr', -, hbx⟩; have HPL2 := Lib.hid hpl; have HR2 := Lib.hid hr'; clear hpl hr'; have hx4 := bl2 (Below.refl _ W3) hbx; have hw4 := bl2 hw3 hbx; have g1 := g1.below hbx g1.lt; (have s0 := g1.cell 0; have s1 := g1.cell 1; have s2 := g1.cell 2; have s3 := g1.cell 3; have s4 := g1.cell 4; simp at s0 s1 s2 s3 s4)) |
    (go_at_call 17; refine (own_any s _ ((HR.out.below hw1).more hw1.size) HN0.out (by omega)).mono ?_; rintro _ W2 ⟨s', rfl, hpl, hr', -, hbx⟩; have HPL := Lib.hid hpl; have HR' := Lib.hid hr'; clear hpl hr'; have hw2 := bl2 hw1 hbx; have g1 := g1.below hbx g1.lt; (have s0 := g1.cell 0; have s1 := g1.cell 1; have s2 := g1.cell 2; have s3 := g1.cell 3; have s4 := g1.cell 4; simp at s0 s1 s2 s3 s4)) |
    (go_at_call 46; refine (minimal_any s' _ HR'.out).mono ?_; intro e W3 hm; obtain ⟨MA, mc, rfl, hMA, hb3⟩ := min_no' HPL.out HV.out hm; have HMA := Lib.hid hMA; clear hMA; have hw3 := bl2 hw2 hb3; have g1 := g1.below hb3 g1.lt; (have s0 := g1.cell 0; have s1 := g1.cell 1; have s2 := g1.cell 2; have s3 := g1.cell 3; have s4 := g1.cell 4; simp at s0 s1 s2 s3 s4)) |
    (go_at_call 45; refine (idle_any s'' _ HR2.out).mono ?_; rw [idle_cong' HPL2.out, HID.out]; rintro _ W5 ⟨IA, ic, rfl, hIA, hb5⟩; refine Hid.out ?_))
  have hw5 := bl2 hw4 hb5
  have hx5 := bl2 hx4 hb5
  have g1 := g1.below hb5 g1.lt
  clear hIA HMA
  refine Lib.hid ?_
  go_wp2_with (go_at_call 15; refine (known_any _).mono ?_; rintro _ Wk ⟨rfl, hbk'⟩)
  go_ret
  exact ⟨rfl, bl2 hw5 hbk'⟩
set_option maxRecDepth 100000 in
set_option maxHeartbeats 8000000 in
theorem lwenough_yes (s : Sch) (at8 : Int) (w : World) (HRR : Hid (s.wreads w w.heap.size)) (HN0 : Hid s.nil0) (hg : largeB s 300 = false) (hv : schB s = true) (ha0 : 0 ≤ at8) (ha1 : at8 < 256) : Calls Try.prog 13 #[scv s s.rv, .int .u8 at8] w fun e w' => e = .returned (.bool true) ∧ Below w.heap.size w w' := by
  obtain ⟨i0, hi, iz0, iz1, iz2⟩ := info_parts infoBool
  obtain ⟨a8, rfl⟩ := Int.eq_ofNat_of_zero_le ha0
  have HV := Lib.hid hv
  have HID : Hid (idleR s = (idleL s s.rules.length, 0)) := (by simp [idleR, hv] : idleR s = (idleL s s.rules.length, 0))
  obtain ⟨hlen, hall, -⟩ := not_large hg
  have HR := Lib.hid (reads_of_weak HRR.out hlen hall)
  clear hall
  go_enter Try.func13, Try.ntmps13
  go_wp2_with (first | (go_at_call 14; refine (large_any s 300 _ ((HRR.out.below (by (repeat (first | exact Below.refl _ _ | assumption | (refine Below.alloc ?_ (by first | omega | (simp; omega) | (simp; done)) _) | (refine Below.setCell ?_ (by first | omega | (simp; omega) | (simp; done)) _) | (refine Below.drew ?_) | (refine belowN ?_ _) | (refine Below.trans ?_ (Below.mono ‹Below _ _ _› (by first | omega | (simp; omega) | (simp; done)))))))).more (by simp))).mono ?_; rintro _ W1 ⟨rfl, hbx⟩; rw [hg]; have hw1 := bl2 (bla (Below.refl _ _)) hbx; have g1 : Blk W1 w.heap.size #[.int .i64 s.places, .int .i64 s.signs, .int .i64 s.kinds, .int .i64 s.answers, s.rv] 24 := (Blk.at_ rfl).below hbx (by first | omega | (simp; omega) | (simp; done)); (have s0 := g1.cell 0; have s1 := g1.cell 1; have s2 := g1.cell 2; have s3 := g1.cell 3; have s4 := g1.cell 4; simp at s0 s1 s2 s3 s4)) |
    (have _ := hw3; go_at_call 17; refine (own_any s _ ((HR.out.below hw3).more hw3.size) HN0.out (by omega)).mono ?_; rintro _ W4 ⟨s'', rfl, hpl, hr', -, hbx⟩; have HPL2 := Lib.hid hpl; have HR2 := Lib.hid hr'; clear hpl hr'; have hx4 := bl2 (Below.refl _ W3) hbx; have hw4 := bl2 hw3 hbx; have g1 := g1.below hbx g1.lt; (have s0 := g1.cell 0; have s1 := g1.cell 1; have s2 := g1.cell 2; have s3 := g1.cell 3; have s4 := g1.cell 4; simp at s0 s1 s2 s3 s4)) |
    (go_at_call 17; refine (own_any s _ ((HR.out.below hw1).more hw1.size) HN0.out (by omega)).mono ?_; rintro _ W2 ⟨s', rfl, hpl, hr', -, hbx⟩; have HPL := Lib.hid hpl; have HR' := Lib.hid hr'; clear hpl hr'; have hw2 := bl2 hw1 hbx; have g1 := g1.below hbx g1.lt; (have s0 := g1.cell 0; have s1 := g1.cell 1; have s2 := g1.cell 2; have s3 := g1.cell 3; have s4 := g1.cell 4; simp at s0 s1 s2 s3 s4)) |
    (go_at_call 46; refine (minimal_any s' _ HR'.out).mono ?_; intro e W3 hm; obtain ⟨R, hmo, MA, mc, rfl, hMA, hb3⟩ := min_yes' HPL.out HV.out hm; have HMA := Lib.hid hMA; clear hMA; have hw3 := bl2 hw2 hb3; have g1 := g1.below hb3 g1.lt; (have s0 := g1.cell 0; have s1 := g1.cell 1; have s2 := g1.cell 2; have s3 := g1.cell 3; have s4 := g1.cell 4; simp at s0 s1 s2 s3 s4)) |
    (go_at_call 45; refine (idle_any s'' _ HR2.out).mono ?_; rw [idle_cong' HPL2.out, HID.out]; rintro _ W5 ⟨IA, ic, rfl, hIA, hb5⟩; refine Hid.out ?_))
  have hw5 := bl2 hw4 hb5
  have hx5 := bl2 hx4 hb5
  have g1 := g1.below hb5 g1.lt
  have V := valid_of HR.out.oks HV.out
  have hkk := V.kinds
  have hln := V.len
  have HMO := Lib.hid hmo
  have hRl : Hid (R < 2 ^ s.rules.length) := (by obtain ⟨_, j, rfl⟩ := hmo; exact passes_lt s j : R < 2 ^ s.rules.length)
  have HM5 : Hid (Sl intCell 1 W5 W5.heap.size MA (minL s R)) := ((HMA.out.below hx5).more hx5.size : Sl intCell 1 W5 W5.heap.size MA (minL s R))
  have HI5 := Lib.hid hIA
  obtain ⟨m, hm⟩ : ∃ m, m = (minL s R).length := ⟨_, rfl⟩
  obtain ⟨p, hp⟩ : ∃ p, p = (idleL s s.rules.length).length := ⟨_, rfl⟩
  rw [← hm, ← hp]
  have hml : m ≤ 35 := by rw [hm]; simp only [minL, List.length_map]; exact Nat.le_trans (List.length_filter_le _ _) (by simp; omega)
  have hpl : p ≤ 35 := by rw [hp]; exact Nat.le_trans (idleL_len s _) hlen
  have HM := Lib.hid hm; have HP := Lib.hid hp
  clear hv hmo V hIA HMA hm hp s0 s1 s2 s3 s4
  refine gen_w (fun W => Below w.heap.size w W ∧ Blk W w.heap.size #[.int .i64 s.places, .int .i64 s.signs, .int .i64 s.kinds, .int .i64 s.answers, s.rv] 24 ∧ Hid (Sl intCell 1 W W.heap.size MA (minL s R)) ∧ Hid (Sl intCell 1 W W.heap.size IA (idleL s s.rules.length))) ⟨hw5, g1, HM5, HI5⟩ ?_
  clear g1 hw5 HM5 HI5 hb5 hx5 hx4 hw4 hb3 hw3 hw2 hw1 hbx HR' HR2
  rintro W6 ⟨hw6, g1, HM6, HI6⟩
  (have s0 := g1.cell 0; have s1 := g1.cell 1; have s2 := g1.cell 2; have s3 := g1.cell 3; have s4 := g1.cell 4; simp at s0 s1 s2 s3 s4)
  refine Lib.hid ?_
  go_wp2_with (at_make; refine wpList_make_blk _ rfl _ _ 97 rfl 4 i0 (.bool false) uBools hi iz0 iz1 rfl .i64 .i64 _ _ s.rules.length rfl rfl rfl rfl (by rw [iz2]; omega) (by unfold maxLen; omega) ?_; intro W7 gS bS)
  have hw7 := bl2 hw6 bS
  have hz6 := g1.lt
  have HOWN := Lib.hid (fun W (hW : Below w.heap.size w W) => own_new s W ((HR.out.below hW).more hW.size) HN0.out (by omega))
  obtain ⟨kb, hkb⟩ : ∃ b, b = W6.heap.size := ⟨_, rfl⟩
  have gK : Blk W7 kb ((bitsB (kmask ((minL s R).take 0)) s.rules.length).map Value.bool).toArray 4 := by
    rw [show kmask ((minL s R).take 0) = 0 from rfl, bitsB_zero, List.map_replicate, hkb]; exact gS
  have g1 := g1.below bS hz6
  have HM7 := Lib.hid (HM6.out.below bS)
  have HI7 := Lib.hid (HI6.out.below bS)
  have hkw : w.heap.size < kb := by rw [hkb]; exact hz6
  rw [← hkb] at HM7 HI7 ⊢
  have HK := Lib.hid gK
  have hkl := gK.lt
  clear gS bS hw6 HM6 HI6 hkb gK s0 s1 s2 s3 s4 hz6
  refine Lib.hid ?_
  go_wp2_with fail
  go_loopw [10] (fun i wr => ∃ j : Nat, j ≤ m ∧ i = .int .i64 j ∧ Hid (Blk wr kb ((bitsB (kmask ((minL s R).take j)) s.rules.length).map Value.bool).toArray 4) ∧ Hid (Below kb W7 wr)) (fun i _ => m - (intOf i).toNat)
  case atStart => exact ⟨0, by omega, rfl, HK, Below.refl _ _⟩
  case round =>
    obtain ⟨j, hj, rfl, HB, hb⟩ := hrel
    have hwr : Below w.heap.size w wr := hw7.trans (hb.out.mono (by omega))
    by_cases hlt : j < m
    · have hjl : j < (minL s R).length := by rw [← HM.out]; exact hlt
      obtain ⟨x, hx, hxl, hxb⟩ := minL_mem (List.getElem_mem hjl)
      have HKS := Lib.hid (kmask_succ hjl)
      rw [hx] at HKS
      obtain ⟨mb, mo, hma, hblk, hcell⟩ := (HM7.out.below hb.out).at_ (k := j) (fun _ => rfl) hjl
      subst hma
      rw [hx] at hcell
      have c0 : wr.cell? ⟨mb, mo + j, none⟩ = some (.int .i64 (x : Int)) := by have := hcell 0 _ rfl; simpa using this
      have f0 := HB.out.free x
      have b0 : ∃ v, wr.cell? ⟨kb, x, none⟩ = some v := ⟨_, by rw [HB.out.cell]; simp [bitsB, hxl]; rfl⟩
      obtain ⟨v0, b0⟩ := b0
      have hj0 : (0 : Int) ≤ (j : Int) := by omega
      have hj1 : (j : Int) < (m : Int) := by omega
      have hx0 : (0 : Int) ≤ (x : Int) := by omega
      have hx1 : (x : Int) < (s.rules.length : Int) := by omega
      have d0 : decide ((x : Int) < 0) = false := by simp
      have d1 : decide ((s.rules.length : Int) ≤ (x : Int)) = false := by simp; omega
      clear hcell hx
      go_wp2_with fail
      go_roundw
      case rel => exact ⟨j + 1, by omega, by go_num, by
        have h := HB.out.set x (.bool true)
        rw [bools_put, bitsB_set hxl] at h
        rw [HKS.out]; show Blk _ _ _ _; simpa using h, hb.out.setCell (Nat.le_refl _) _⟩
      case measure => simp [intOf] <;> omega
    · obtain rfl : m = j := by omega
      have hlt3 : decide ((m : Int) < (m : Int)) = false := by simp
      obtain ⟨K, hK⟩ : ∃ K, K = kmask (minL s R) := ⟨_, rfl⟩
      have HKB : Hid (∀ i, i < s.rules.length → K.testBit i = !R.testBit i) := (fun i hi => by rw [hK]; exact kmask_min hi : ∀ i, i < s.rules.length → K.testBit i = !R.testBit i)
      have gK : Blk wr kb ((bitsB K s.rules.length).map Value.bool).toArray 4 := by
        have h := HB.out; rw [List.take_of_length_le (by rw [← HM.out]; exact Nat.le_refl _), ← hK] at h; exact h
      have g1 := g1.below hb.out hkw
      (have s0 := g1.cell 0; have s1 := g1.cell 1; have s2 := g1.cell 2; have s3 := g1.cell 3; have s4 := g1.cell 4; simp at s0 s1 s2 s3 s4)
      clear hK HB hlt hlt3 hj
      go_wp2_with (go_at_call 17; refine (HOWN.out _ hwr).mono ?_; rintro _ W8 ⟨q, rfl, hpl8, hm8, -, hb8⟩; refine Hid.out ?_)
      have hkr := gK.lt
      have T0 := turn_of hpl8 hm8
      rw [T0.scv]
      refine Lib.hid ?_
      go_wp2_with fail
      obtain ⟨Aq, hAq⟩ : ∃ A, A = q.ra := ⟨_, rfl⟩
      obtain ⟨cq, hcq⟩ : ∃ c, c = q.rc := ⟨_, rfl⟩
      obtain ⟨base, hbase⟩ : ∃ b, b = wr.heap.size := ⟨_, rfl⟩
      rw [← hAq, ← hcq, ← hbase] at T0
      rw [← hAq, ← hcq]
      obtain ⟨bs, hbs⟩ : ∃ b, b = W8.heap.size := ⟨_, rfl⟩
      rw [← hbs]
      refine gen_w (fun W => Below kb W7 W ∧ Blk W kb ((bitsB K s.rules.length).map Value.bool).toArray 4 ∧ Blk W bs #[.int .i64 s.places, .int .i64 s.signs, .int .i64 s.kinds, .int .i64 s.answers, .slice Aq s.rules.length cq] 24 ∧ Turn s Aq cq base 0 W q) ⟨(hb.out.trans (hb8.mono (by omega))).alloc (by have := hb8.size; omega) _, (gK.below hb8 hkr).alloc _, Blk.at_ hbs, T0.below ((Below.refl _ _).alloc (Nat.le_refl _) _)⟩ ?_
      have hkbase : kb < base := by rw [hbase]; exact hkr
      clear hb hwr gK g1 hpl8 hm8 hb8 T0 hAq hcq hbase hbs hkr s0 s1 s2 s3 s4
      rintro W9 ⟨hb9, gK, gS, T0⟩
      have HK9 := Lib.hid gK; have HS9 := Lib.hid gS; have HT9 := Lib.hid T0
      clear gK gS T0
      have g1b := (show Blk W7 w.heap.size _ _ from ‹Blk W7 w.heap.size #[.int .i64 s.places, .int .i64 s.signs, .int .i64 s.kinds, .int .i64 s.answers, s.rv] 24›)
      go_loopw [12] (fun i wr => ∃ (j : Nat) (q : Sch), j ≤ s.rules.length ∧ i = .int .i64 j ∧ Hid (Below kb W7 wr) ∧ Hid (Blk wr kb ((bitsB K s.rules.length).map Value.bool).toArray 4) ∧ Hid (Blk wr bs #[.int .i64 s.places, .int .i64 s.signs, .int .i64 s.kinds, .int .i64 s.answers, .slice Aq s.rules.length cq] 24) ∧ Hid (Turn s Aq cq base (R % 2 ^ j) wr q)) (fun i _ => s.rules.length - (intOf i).toNat)
      case atStart => exact ⟨0, q, by omega, rfl, hb9, HK9, HS9, by rw [show R % 2 ^ 0 = 0 from Nat.mod_one R]; exact HT9⟩
      case round =>
        obtain ⟨j, q, hj, rfl, hb, HKj, HSj, HT⟩ := hrel
        have gS := HSj.out
        have u0 := gS.cell 0; have u1 := gS.cell 1; have u2 := gS.cell 2; have u3 := gS.cell 3; have u4' := gS.cell 4
        simp at u0 u1 u2 u3 u4'
        by_cases hlt : j < s.rules.length
        · have c0 : wr.cell? ⟨kb, j, none⟩ = some (.bool (K.testBit j)) := by rw [HKj.out.cell]; simp [bitsB, hlt]
          rw [HKB.out j hlt] at c0
          have HMS := Lib.hid (mod_step (R := R) (i := j))
          have hj0 : (0 : Int) ≤ (j : Int) := by omega
          have hj1 : (j : Int) < (s.rules.length : Int) := by omega
          cases hbit : R.testBit j with
          | false =>
            rw [hbit] at c0 HMS
            go_wp2_with fail
            go_roundw
            case rel => exact ⟨j + 1, q, by omega, by go_num, hb, HKj, HSj, by rw [HMS.out]; exact HT⟩
            case measure => simp [intOf] <;> omega
          | true =>
            rw [hbit] at c0 HMS
            obtain ⟨g, rfl, hg, ⟨gc, gR⟩, f0, ⟨v0, z0⟩, HT2⟩ := HT.out.put hlt
            have n1 := blk_ne gR HKj.out (by decide)
            have n2 := blk_ne gR gS (by decide)
            have HT2 := Lib.hid HT2
            go_wp2_with fail
            go_roundw
            case rel => exact ⟨j + 1, q.off1 j, by omega, by go_num, hb.out.setCell (by show kb ≤ g; omega) _, HKj.out.far _ (by show kb ≠ g; exact Ne.symm n1) _, HSj.out.far _ (by show bs ≠ g; exact Ne.symm n2) _, by rw [HMS.out]; exact HT2⟩
            case measure => simp [intOf] <;> omega
        · obtain rfl : j = s.rules.length := by omega
          have HT := Lib.hid (show Turn s Aq cq base R wr q by have h := HT.out; rw [Nat.mod_eq_of_lt hRl.out] at h; exact h)
          have hwr : Below w.heap.size w wr := hw7.trans (hb.out.mono (by omega))
          have g1 := g1b.below hb.out hkw
          (have s0 := g1.cell 0; have s1 := g1.cell 1; have s2 := g1.cell 2; have s3 := g1.cell 3; have s4 := g1.cell 4; simp at s0 s1 s2 s3 s4)
          have hlt4 : decide ((s.rules.length : Int) < (s.rules.length : Int)) = false := by simp
          clear hlt hj
          go_wp2_with (go_at_call 49; refine (al_self HV.out ((HR.out.below hwr).more hwr.size) HN0.out HT.out (Below.refl _ _)).mono ?_; rw [min_same HMO.out]; rintro _ W10 ⟨rfl, hb10⟩; refine Hid.out ?_)
          have hb10k : Below kb W7 W10 := hb.out.trans (hb10.mono (by have := HKj.out.lt; omega))
          have gS := gS.below hb10 gS.lt
          have HT := Lib.hid (HT.out.below hb10)
          have hw10 : Below w.heap.size w W10 := hw7.trans (hb10k.mono (by omega))
          have hkl10 : kb < W10.heap.size := by have := HKj.out.lt; have := hb10.size; omega
          clear HKj HSj hb hwr hb10 u0 u1 u2 u3 u4' g1 s0 s1 s2 s3 s4 hlt4
          by_cases hm0 : m = 0
          · have d0 : decide (0 < (m : Int)) = false := decide_eq_false (by omega)
            have d0' : decide (0 < m) = false := decide_eq_false (by omega)
            have hm0' : ¬ 0 < m := by omega
            clear hm0
            rename World => Wt
            have hbt := hb10k
            clear HT gS
            refine Lib.hid ?_
            have hwt : Below w.heap.size w Wt := hw7.trans (hbt.mono (by omega))
            have g1 := g1b.below hbt hkw
            (have s0 := g1.cell 0; have s1 := g1.cell 1; have s2 := g1.cell 2; have s3 := g1.cell 3; have s4 := g1.cell 4; simp at s0 s1 s2 s3 s4)
            by_cases hn0 : s.rules.length = 0
            · have e1 : ((s.rules.length : Int) == 0) = true := by simp only [beq_iff_eq]; omega
              have e2 : ((p : Int) == 0) = true := by
                have h1 := idleL_len s s.rules.length
                have h2 := HP.out
                simp only [beq_iff_eq]; omega
              clear hn0
              go_wp2_with (go_at_call 15; refine (known_any _).mono ?_; rintro _ Wk ⟨rfl, hbk'⟩)
              go_ret
              exact ⟨rfl, bl2 hwt hbk'⟩
            · have e1 : ((s.rules.length : Int) == 0) = false := by simp only [beq_eq_false_iff_ne, ne_eq]; omega
              have hnp : 0 < s.rules.length := by omega
              clear hn0
              go_wp2_with fail
              obtain ⟨kk, hkk⟩ : ∃ kk, kk = a8 % s.rules.length := ⟨_, rfl⟩
              have hkl : kk < s.rules.length := by rw [hkk]; exact Nat.mod_lt _ hnp
              have ek : ((a8 : Int) % (s.rules.length : Int)) = (kk : Int) := by rw [hkk]; simp
              rw [ek]
              clear ek hkk s0 s1 s2 s3 s4
              go_loopw [15, 16] (fun v i wr => ∃ j : Nat, j ≤ p ∧ i = .int .i64 j ∧ v = .bool (((idleL s s.rules.length).take j).any fun f => f == (kk : Int)) ∧ Below Wt.heap.size Wt wr) (fun _ i _ => p - (intOf i).toNat)
              case atStart => exact ⟨0, by omega, rfl, rfl, Below.refl _ _⟩
              case round =>
                obtain ⟨j, hj, rfl, rfl, hb⟩ := hrel
                have hbk : Below kb W7 wr := hbt.trans (hb.mono (by have := hbt.size; omega))
                by_cases hlt : j < p
                · have hjl : j < (idleL s s.rules.length).length := by rw [← HP.out]; exact hlt
                  have HAT := Lib.hid (any_take (q := fun f : Int => f == (kk : Int)) hjl)
                  obtain ⟨ib, io, hia, hblk, hcell⟩ := (HI7.out.below hbk).at_ (k := j) (fun _ => rfl) hjl
                  subst hia
                  obtain ⟨f, hf⟩ : ∃ f, f = (idleL s s.rules.length)[j] := ⟨_, rfl⟩
                  rw [← hf] at hcell HAT
                  have c0 : wr.cell? ⟨ib, io + j, none⟩ = some (.int .i64 f) := by have := hcell 0 _ rfl; simpa using this
                  obtain ⟨t, ht⟩ : ∃ t, t = ((idleL s s.rules.length).take j).any fun f => f == (kk : Int) := ⟨_, rfl⟩
                  rw [← ht] at HAT ⊢
                  have hj0 : (0 : Int) ≤ (j : Int) := by omega
                  have hj1 : (j : Int) < (p : Int) := by omega
                  clear hcell hf ht
                  cases t with
                  | true =>
                    go_wp2_with fail
                    go_roundw
                    case rel => exact ⟨j + 1, by omega, by go_num, by rw [HAT.out]; rfl, hb⟩
                    case measure => simp [intOf] <;> omega
                  | false =>
                    obtain ⟨u, hu⟩ : ∃ u, (f == (kk : Int)) = u := ⟨_, rfl⟩
                    have HAT2 : Hid ((((idleL s s.rules.length).take (j + 1)).any fun f => f == (kk : Int)) = u) := (by rw [HAT.out, hu]; rfl : (((idleL s s.rules.length).take (j + 1)).any fun f => f == (kk : Int)) = u)
                    clear HAT
                    go_wp2_with fail
                    go_roundw
                    case rel => exact ⟨j + 1, by omega, by go_num, by rw [HAT2.out], hb⟩
                    case measure => simp [intOf] <;> omega
                · obtain rfl : p = j := by omega
                  have hlt5 : decide ((p : Int) < (p : Int)) = false := by simp
                  have hany : (((idleL s s.rules.length).take p).any fun f => f == (kk : Int)) = sameB s (2 ^ kk) := by
                    rw [List.take_of_length_le (by rw [← HP.out]; exact Nat.le_refl _), Bool.eq_iff_iff, List.any_eq_true]
                    constructor
                    · rintro ⟨f, h1, h2⟩
                      have e : f = (kk : Int) := by simpa using h2
                      rw [e] at h1
                      exact (idleL_mem.1 h1).2
                    · intro h; exact ⟨(kk : Int), idleL_mem.2 ⟨hkl, h⟩, by simp⟩
                  rw [hany]
                  have hwr : Below w.heap.size w wr := bl2 hwt hb
                  have g1 := g1b.below hbk hkw
                  have HRW := Lib.hid (HR.out.below hwr)
                  obtain ⟨rb, ro, hra, hrblk, hrcell⟩ := HRW.out.1.at_ (k := kk) (fun _ => rfl) hkl
                  obtain ⟨ru, hru⟩ : ∃ r, r = s.rules[kk] := ⟨_, rfl⟩
                  have hk0 : ru.kinds = 0 → sameB s (2 ^ kk) = true := fun h0 => kinds0_idle (r := ru) (by rw [hru]; exact List.getElem?_eq_getElem hkl) h0
                  rw [← hru] at hrcell
                  have rc0 : wr.cell? ⟨rb, ro + kk * 5 + 1, none⟩ = some (.int .i64 ru.kinds) := hrcell 1 _ rfl
                  have hrbl : rb < wr.heap.size := by have := hwr.size; omega
                  obtain ⟨kd, hkd⟩ : ∃ kd, kd = ru.kinds := ⟨_, rfl⟩
                  rw [← hkd] at rc0 hk0
                  obtain ⟨bt, hbt2⟩ : ∃ bt, bt = sameB s (2 ^ kk) := ⟨_, rfl⟩
                  have HSB := Lib.hid hbt2
                  rw [← hbt2] at hk0 ⊢
                  have HK0 := Lib.hid hk0
                  (have s0 := g1.cell 0; have s1 := g1.cell 1; have s2 := g1.cell 2; have s3 := g1.cell 3; have s4 := g1.cell 4; simp at s0 s1 s2 s3 s4)
                  clear hany hrcell hru hkd hbt2 hk0 hlt hj
                  go_wp2_with (go_at_call 17; refine (HOWN.out _ hwr).mono ?_; rintro _ W15 ⟨q2, rfl, hpl15, hm15, -, hb15⟩; refine Hid.out ?_)
                  have T15 := turn_of hpl15 hm15
                  rw [T15.scv]
                  obtain ⟨A2, hA2⟩ : ∃ A, A = q2.ra := ⟨_, rfl⟩
                  obtain ⟨c2, hc2⟩ : ∃ c, c = q2.rc := ⟨_, rfl⟩
                  rw [← hA2, ← hc2] at T15 ⊢
                  clear hA2 hc2 hpl15 hm15
                  refine Lib.hid ?_
                  go_upto_region 37 with fail
                  obtain ⟨bw, hbw⟩ : ∃ b, b = W15.heap.size := ⟨_, rfl⟩
                  rw [← hbw]
                  refine gen_w (fun W => Below wr.heap.size wr W ∧ Blk W bw #[.int .i64 s.places, .int .i64 s.signs, .int .i64 s.kinds, .int .i64 s.answers, .slice A2 s.rules.length c2] 24 ∧ Turn s A2 c2 wr.heap.size 0 W q2) ⟨bla hb15, Blk.at_ hbw, T15.below ((Below.refl _ _).alloc (Nat.le_refl _) _)⟩ ?_
                  clear T15 hb15 hbw s0 s1 s2 s3 s4
                  rintro W16 ⟨hb16, gW, T16⟩
                  obtain ⟨g, rfl, hgb, ⟨gc, gR⟩, f0, ⟨z, z0⟩, TB⟩ := T16.put hkl
                  rw [Nat.zero_or] at TB
                  have g1 := g1.below hb16 g1.lt
                  have n3 : g ≠ bw := blk_ne gR gW (by decide)
                  have n4 : g ≠ w.heap.size := blk_ne gR g1 (by decide)
                  obtain ⟨W17, hW17⟩ : ∃ W, W = W16.setCell ⟨g, kk * 5 + 1, none⟩ (.int .i64 0) := ⟨_, rfl⟩
                  rw [← hW17] at TB
                  have hb17 : Below wr.heap.size wr W17 := by rw [hW17]; exact hb16.setCell (by show _ ≤ g; omega) _
                  have hw17 := bl2 hwr hb17
                  have HTB := Lib.hid TB
                  have HW17 := Lib.hid hW17
                  have g1r := (show Blk W17 w.heap.size _ _ by rw [hW17]; exact g1.far ⟨g, kk * 5 + 1, none⟩ (by show w.heap.size ≠ g; exact Ne.symm n4) _)
                  have gWr := (show Blk W17 bw _ _ by rw [hW17]; exact gW.far ⟨g, kk * 5 + 1, none⟩ (by show bw ≠ g; exact Ne.symm n3) _)
                  have hkk0 : (0 : Int) ≤ (kk : Int) := by omega
                  have hkk1 : (kk : Int) < (s.rules.length : Int) := by omega
                  (have s0 := g1.cell 0; have s1 := g1.cell 1; have s2 := g1.cell 2; have s3 := g1.cell 3; have s4 := g1.cell 4; simp at s0 s1 s2 s3 s4)
                  have k0 := gW.cell 0; have k1 := gW.cell 1; have k2 := gW.cell 2; have k3 := gW.cell 3; have k4 := gW.cell 4
                  simp at k0 k1 k2 k3 k4
                  clear hW17 TB T16
                  go_wp2_with (go_at_call 49; rw [← HW17.out]; refine (al_self HV.out ((HR.out.below hw17).more hw17.size) HN0.out HTB.out (Below.refl _ _)).mono ?_; rw [← HSB.out]; rintro _ W18 ⟨rfl, hb18⟩; refine Hid.out ?_)
                  have hw18 := bl2 hw17 hb18
                  have hb18r := bl2 hb17 hb18
                  have g1 := g1r.below hb18 g1r.lt
                  have s4 := g1.cell 4
                  simp at s4
                  rw [show s.rv = .slice (some ⟨rb, ro, none⟩) s.rules.length s.rc by rw [← hra]] at s4
                  have rc1 := (hb18r.cell (p := ⟨rb, ro + kk * 5 + 1, none⟩) hrbl).trans rc0
                  clear hra
                  refine Lib.hid ?_
                  cases bt with
                  | true =>
                    obtain ⟨u, hu⟩ : ∃ u, (kd != 0) = u := ⟨_, rfl⟩
                    cases u
                    all_goals (
                      go_wp2_with (go_at_call 15; refine (known_any _).mono ?_; rintro _ Wk ⟨rfl, hbk'⟩)
                      go_ret
                      exact ⟨rfl, bl2 hw18 hbk'⟩)
                  | false =>
                    have hu : (kd != 0) = true := by
                      simp only [bne_iff_ne, ne_eq]; intro h0; have := HK0.out h0; cases this
                    go_wp2_with (go_at_call 15; refine (known_any _).mono ?_; rintro _ Wk ⟨rfl, hbk'⟩)
                    go_ret
                    exact ⟨rfl, bl2 hw18 hbk'⟩
          · have hmp : 0 < m := by omega
            have hr : a8 % m < m := Nat.mod_lt _ hmp
            have d0 : decide (0 < (m : Int)) = true := decide_eq_true (by omega)
            have hjl : a8 % m < (minL s R).length := by rw [← HM.out]; exact hr
            obtain ⟨x, hx, hxl, hxb⟩ := minL_mem (List.getElem_mem hjl)
            have HTI := Lib.hid (min_tight HMO.out hxl hxb)
            have v0 := gS.cell 0; have v1 := gS.cell 1; have v2 := gS.cell 2; have v3 := gS.cell 3; have v4 := gS.cell 4
            simp at v0 v1 v2 v3 v4
            have hq1000 : q.rules.length ≤ 1000 := by rw [HT.out.len]; omega
            have HOQ := Lib.hid (own_new q W10 HT.out.m.reads HT.out.nil hq1000)
            rw [HT.out.scv] at HOQ
            clear hm0
            refine Lib.hid ?_
            go_wp2_with (go_at_call 17; refine HOQ.out.mono ?_; rintro _ W11 ⟨le, rfl, hpl11, hm11, -, hb11⟩; refine Hid.out ?_)
            have TL := turn_of' hpl11 HT.out hm11
            rw [TL.scv]
            refine Lib.hid ?_
            go_wp2_with fail
            obtain ⟨Al, hAl⟩ : ∃ A, A = le.ra := ⟨_, rfl⟩
            obtain ⟨cl, hcl⟩ : ∃ c, c = le.rc := ⟨_, rfl⟩
            obtain ⟨bb, hbb⟩ : ∃ b, b = W10.heap.size := ⟨_, rfl⟩
            rw [← hAl, ← hcl, ← hbb] at TL
            rw [← hAl, ← hcl]
            obtain ⟨bl, hbl⟩ : ∃ b, b = W11.heap.size := ⟨_, rfl⟩
            rw [← hbl]
            refine gen_w (fun W => Below W10.heap.size W10 W ∧ Blk W bl #[.int .i64 s.places, .int .i64 s.signs, .int .i64 s.kinds, .int .i64 s.answers, .slice Al s.rules.length cl] 24 ∧ Turn s Al cl bb R W le) ⟨bla hb11, Blk.at_ hbl, TL.below ((Below.refl _ _).alloc (Nat.le_refl _) _)⟩ ?_
            clear hb11 TL hAl hcl hbl hpl11 hm11 v0 v1 v2 v3 v4
            rintro W12 ⟨hb12, gL, TL⟩
            have hk12 : Below kb W7 W12 := hb10k.trans (hb12.mono (by omega))
            obtain ⟨mb, mo, hma, hblk, hcell⟩ := (HM7.out.below hk12).at_ (k := a8 % m) (fun _ => rfl) hjl
            subst hma
            rw [hx] at hcell
            have c0 : W12.cell? ⟨mb, mo + a8 % m, none⟩ = some (.int .i64 (x : Int)) := by have := hcell 0 _ rfl; simpa using this
            obtain ⟨g, rfl, hgb, ⟨gc, gR⟩, f0, ⟨z, z0⟩, TL1⟩ := TL.put hxl
            have TL2 := TL1.below (Below.drew (Below.refl _ _))
            have nL := blk_ne gR gL (by decide)
            have hx0 : (0 : Int) ≤ (x : Int) := by omega
            have hx1 : (x : Int) < (s.rules.length : Int) := by omega
            have v4 := gL.cell 4
            simp at v4
            obtain ⟨W13, hW13⟩ : ∃ W, W = (W12.setCell ⟨g, x * 5 + 1, none⟩ (.int .i64 0)).drew := ⟨_, rfl⟩
            rw [← hW13] at TL2
            have hb13 : Below W10.heap.size W10 W13 := by rw [hW13]; exact Below.drew (hb12.setCell (by show _ ≤ g; omega) _)
            have gL13 : Blk W13 bl #[.int .i64 s.places, .int .i64 s.signs, .int .i64 s.kinds, .int .i64 s.answers, .slice (some ⟨g, 0, none⟩) s.rules.length cl] 24 := by rw [hW13]; exact gL.far ⟨g, x * 5 + 1, none⟩ (by show bl ≠ g; exact Ne.symm nL) _
            have gS13 := gS.below hb13 gS.lt
            have HTL := Lib.hid TL2
            have HW13 := Lib.hid hW13
            have k0 := gL13.cell 0; have k1 := gL13.cell 1; have k2 := gL13.cell 2; have k3 := gL13.cell 3; have k4 := gL13.cell 4
            have v0 := gS13.cell 0; have v1 := gS13.cell 1; have v2 := gS13.cell 2; have v3 := gS13.cell 3; have v5 := gS13.cell 4
            simp at k0 k1 k2 k3 k4 v0 v1 v2 v3 v5
            clear hW13 TL2 TL1 TL hcell hx
            go_region
            all_goals (
              rw [← HW13.out]
              go_wp2_with (go_at_call 49; refine (al_turn HV.out HT.out HTL.out hb13 (Below.refl _ _) (min_same HMO.out)).mono ?_; rw [HTI.out]; rintro _ W14 ⟨rfl, hb14⟩; refine Hid.out ?_)
              have hbt : Below kb W7 W14 := hb10k.trans ((bl2 hb13 hb14).mono (by omega))
              clear k0 k1 k2 k3 k4 v0 v1 v2 v3 v4 v5 f0 z0 c0 gL gL13 gS13 gS gR hb12 hk12 hb13 hb14 HTL HT HW13
              rename World => Wt
              refine Lib.hid ?_
              have hwt : Below w.heap.size w Wt := hw7.trans (hbt.mono (by omega))
              have g1 := g1b.below hbt hkw
              (have s0 := g1.cell 0; have s1 := g1.cell 1; have s2 := g1.cell 2; have s3 := g1.cell 3; have s4 := g1.cell 4; simp at s0 s1 s2 s3 s4)
              by_cases hn0 : s.rules.length = 0
              · have e1 : ((s.rules.length : Int) == 0) = true := by simp only [beq_iff_eq]; omega
                have e2 : ((p : Int) == 0) = true := by
                  have h1 := idleL_len s s.rules.length
                  have h2 := HP.out
                  simp only [beq_iff_eq]; omega
                clear hn0
                go_wp2_with (go_at_call 15; refine (known_any _).mono ?_; rintro _ Wk ⟨rfl, hbk'⟩)
                go_ret
                exact ⟨rfl, bl2 hwt hbk'⟩
              · have e1 : ((s.rules.length : Int) == 0) = false := by simp only [beq_eq_false_iff_ne, ne_eq]; omega
                have hnp : 0 < s.rules.length := by omega
                clear hn0
                go_wp2_with fail
                obtain ⟨kk, hkk⟩ : ∃ kk, kk = a8 % s.rules.length := ⟨_, rfl⟩
                have hkl : kk < s.rules.length := by rw [hkk]; exact Nat.mod_lt _ hnp
                have ek : ((a8 : Int) % (s.rules.length : Int)) = (kk : Int) := by rw [hkk]; simp
                rw [ek]
                clear ek hkk s0 s1 s2 s3 s4
                go_loopw [15, 16] (fun v i wr => ∃ j : Nat, j ≤ p ∧ i = .int .i64 j ∧ v = .bool (((idleL s s.rules.length).take j).any fun f => f == (kk : Int)) ∧ Below Wt.heap.size Wt wr) (fun _ i _ => p - (intOf i).toNat)
                case atStart => exact ⟨0, by omega, rfl, rfl, Below.refl _ _⟩
                case round =>
                  obtain ⟨j, hj, rfl, rfl, hb⟩ := hrel
                  have hbk : Below kb W7 wr := hbt.trans (hb.mono (by have := hbt.size; omega))
                  by_cases hlt : j < p
                  · have hjl : j < (idleL s s.rules.length).length := by rw [← HP.out]; exact hlt
                    have HAT := Lib.hid (any_take (q := fun f : Int => f == (kk : Int)) hjl)
                    obtain ⟨ib, io, hia, hblk, hcell⟩ := (HI7.out.below hbk).at_ (k := j) (fun _ => rfl) hjl
                    subst hia
                    obtain ⟨f, hf⟩ : ∃ f, f = (idleL s s.rules.length)[j] := ⟨_, rfl⟩
                    rw [← hf] at hcell HAT
                    have c0 : wr.cell? ⟨ib, io + j, none⟩ = some (.int .i64 f) := by have := hcell 0 _ rfl; simpa using this
                    obtain ⟨t, ht⟩ : ∃ t, t = ((idleL s s.rules.length).take j).any fun f => f == (kk : Int) := ⟨_, rfl⟩
                    rw [← ht] at HAT ⊢
                    have hj0 : (0 : Int) ≤ (j : Int) := by omega
                    have hj1 : (j : Int) < (p : Int) := by omega
                    clear hcell hf ht
                    cases t with
                    | true =>
                      go_wp2_with fail
                      go_roundw
                      case rel => exact ⟨j + 1, by omega, by go_num, by rw [HAT.out]; rfl, hb⟩
                      case measure => simp [intOf] <;> omega
                    | false =>
                      obtain ⟨u, hu⟩ : ∃ u, (f == (kk : Int)) = u := ⟨_, rfl⟩
                      have HAT2 : Hid ((((idleL s s.rules.length).take (j + 1)).any fun f => f == (kk : Int)) = u) := (by rw [HAT.out, hu]; rfl : (((idleL s s.rules.length).take (j + 1)).any fun f => f == (kk : Int)) = u)
                      clear HAT
                      go_wp2_with fail
                      go_roundw
                      case rel => exact ⟨j + 1, by omega, by go_num, by rw [HAT2.out], hb⟩
                      case measure => simp [intOf] <;> omega
                  · obtain rfl : p = j := by omega
                    have hlt5 : decide ((p : Int) < (p : Int)) = false := by simp
                    have hany : (((idleL s s.rules.length).take p).any fun f => f == (kk : Int)) = sameB s (2 ^ kk) := by
                      rw [List.take_of_length_le (by rw [← HP.out]; exact Nat.le_refl _), Bool.eq_iff_iff, List.any_eq_true]
                      constructor
                      · rintro ⟨f, h1, h2⟩
                        have e : f = (kk : Int) := by simpa using h2
                        rw [e] at h1
                        exact (idleL_mem.1 h1).2
                      · intro h; exact ⟨(kk : Int), idleL_mem.2 ⟨hkl, h⟩, by simp⟩
                    rw [hany]
                    have hwr : Below w.heap.size w wr := bl2 hwt hb
                    have g1 := g1b.below hbk hkw
                    have HRW := Lib.hid (HR.out.below hwr)
                    obtain ⟨rb, ro, hra, hrblk, hrcell⟩ := HRW.out.1.at_ (k := kk) (fun _ => rfl) hkl
                    obtain ⟨ru, hru⟩ : ∃ r, r = s.rules[kk] := ⟨_, rfl⟩
                    have hk0 : ru.kinds = 0 → sameB s (2 ^ kk) = true := fun h0 => kinds0_idle (r := ru) (by rw [hru]; exact List.getElem?_eq_getElem hkl) h0
                    rw [← hru] at hrcell
                    have rc0 : wr.cell? ⟨rb, ro + kk * 5 + 1, none⟩ = some (.int .i64 ru.kinds) := hrcell 1 _ rfl
                    have hrbl : rb < wr.heap.size := by have := hwr.size; omega
                    obtain ⟨kd, hkd⟩ : ∃ kd, kd = ru.kinds := ⟨_, rfl⟩
                    rw [← hkd] at rc0 hk0
                    obtain ⟨bt, hbt2⟩ : ∃ bt, bt = sameB s (2 ^ kk) := ⟨_, rfl⟩
                    have HSB := Lib.hid hbt2
                    rw [← hbt2] at hk0 ⊢
                    have HK0 := Lib.hid hk0
                    (have s0 := g1.cell 0; have s1 := g1.cell 1; have s2 := g1.cell 2; have s3 := g1.cell 3; have s4 := g1.cell 4; simp at s0 s1 s2 s3 s4)
                    clear hany hrcell hru hkd hbt2 hk0 hlt hj
                    go_wp2_with (go_at_call 17; refine (HOWN.out _ hwr).mono ?_; rintro _ W15 ⟨q2, rfl, hpl15, hm15, -, hb15⟩; refine Hid.out ?_)
                    have T15 := turn_of hpl15 hm15
                    rw [T15.scv]
                    obtain ⟨A2, hA2⟩ : ∃ A, A = q2.ra := ⟨_, rfl⟩
                    obtain ⟨c2, hc2⟩ : ∃ c, c = q2.rc := ⟨_, rfl⟩
                    rw [← hA2, ← hc2] at T15 ⊢
                    clear hA2 hc2 hpl15 hm15
                    refine Lib.hid ?_
                    go_upto_region 37 with fail
                    obtain ⟨bw, hbw⟩ : ∃ b, b = W15.heap.size := ⟨_, rfl⟩
                    rw [← hbw]
                    refine gen_w (fun W => Below wr.heap.size wr W ∧ Blk W bw #[.int .i64 s.places, .int .i64 s.signs, .int .i64 s.kinds, .int .i64 s.answers, .slice A2 s.rules.length c2] 24 ∧ Turn s A2 c2 wr.heap.size 0 W q2) ⟨bla hb15, Blk.at_ hbw, T15.below ((Below.refl _ _).alloc (Nat.le_refl _) _)⟩ ?_
                    clear T15 hb15 hbw s0 s1 s2 s3 s4
                    rintro W16 ⟨hb16, gW, T16⟩
                    obtain ⟨g, rfl, hgb, ⟨gc, gR⟩, f0, ⟨z, z0⟩, TB⟩ := T16.put hkl
                    rw [Nat.zero_or] at TB
                    have g1 := g1.below hb16 g1.lt
                    have n3 : g ≠ bw := blk_ne gR gW (by decide)
                    have n4 : g ≠ w.heap.size := blk_ne gR g1 (by decide)
                    obtain ⟨W17, hW17⟩ : ∃ W, W = W16.setCell ⟨g, kk * 5 + 1, none⟩ (.int .i64 0) := ⟨_, rfl⟩
                    rw [← hW17] at TB
                    have hb17 : Below wr.heap.size wr W17 := by rw [hW17]; exact hb16.setCell (by show _ ≤ g; omega) _
                    have hw17 := bl2 hwr hb17
                    have HTB := Lib.hid TB
                    have HW17 := Lib.hid hW17
                    have g1r := (show Blk W17 w.heap.size _ _ by rw [hW17]; exact g1.far ⟨g, kk * 5 + 1, none⟩ (by show w.heap.size ≠ g; exact Ne.symm n4) _)
                    have gWr := (show Blk W17 bw _ _ by rw [hW17]; exact gW.far ⟨g, kk * 5 + 1, none⟩ (by show bw ≠ g; exact Ne.symm n3) _)
                    have hkk0 : (0 : Int) ≤ (kk : Int) := by omega
                    have hkk1 : (kk : Int) < (s.rules.length : Int) := by omega
                    (have s0 := g1.cell 0; have s1 := g1.cell 1; have s2 := g1.cell 2; have s3 := g1.cell 3; have s4 := g1.cell 4; simp at s0 s1 s2 s3 s4)
                    have k0 := gW.cell 0; have k1 := gW.cell 1; have k2 := gW.cell 2; have k3 := gW.cell 3; have k4 := gW.cell 4
                    simp at k0 k1 k2 k3 k4
                    clear hW17 TB T16
                    go_wp2_with (go_at_call 49; rw [← HW17.out]; refine (al_self HV.out ((HR.out.below hw17).more hw17.size) HN0.out HTB.out (Below.refl _ _)).mono ?_; rw [← HSB.out]; rintro _ W18 ⟨rfl, hb18⟩; refine Hid.out ?_)
                    have hw18 := bl2 hw17 hb18
                    have hb18r := bl2 hb17 hb18
                    have g1 := g1r.below hb18 g1r.lt
                    have s4 := g1.cell 4
                    simp at s4
                    rw [show s.rv = .slice (some ⟨rb, ro, none⟩) s.rules.length s.rc by rw [← hra]] at s4
                    have rc1 := (hb18r.cell (p := ⟨rb, ro + kk * 5 + 1, none⟩) hrbl).trans rc0
                    clear hra
                    refine Lib.hid ?_
                    cases bt with
                    | true =>
                      obtain ⟨u, hu⟩ : ∃ u, (kd != 0) = u := ⟨_, rfl⟩
                      cases u
                      all_goals (
                        go_wp2_with (go_at_call 15; refine (known_any _).mono ?_; rintro _ Wk ⟨rfl, hbk'⟩)
                        go_ret
                        exact ⟨rfl, bl2 hw18 hbk'⟩)
                    | false =>
                      have hu : (kd != 0) = true := by
                        simp only [bne_iff_ne, ne_eq]; intro h0; have := HK0.out h0; cases this
                      go_wp2_with (go_at_call 15; refine (known_any _).mono ?_; rintro _ Wk ⟨rfl, hbk'⟩)
                      go_ret
                      exact ⟨rfl, bl2 hw18 hbk'⟩
              )
set_option maxRecDepth 100000 in
set_option maxHeartbeats 8000000 in
theorem lwenough_any (s : Sch) (at8 : Int) (w : World) (hr : s.wreads w w.heap.size) (h0 : s.nil0) (ha : 0 ≤ at8 ∧ at8 < 256) : Calls Try.prog 13 #[scv s s.rv, .int .u8 at8] w fun e w' => e = .returned (.bool true) ∧ Below w.heap.size w w' := by
  have HRR := Lib.hid hr; have HN0 := Lib.hid h0
  clear hr h0
  by_cases hg : largeB s 300 = true
  · go_enter Try.func13, Try.ntmps13
    go_wp2_with (first | (go_at_call 14; refine (large_any s 300 _ ((HRR.out.below (by (repeat (first | exact Below.refl _ _ | assumption | (refine Below.alloc ?_ (by first | omega | (simp; omega) | (simp; done)) _) | (refine Below.setCell ?_ (by first | omega | (simp; omega) | (simp; done)) _) | (refine Below.drew ?_) | (refine belowN ?_ _) | (refine Below.trans ?_ (Below.mono ‹Below _ _ _› (by first | omega | (simp; omega) | (simp; done)))))))).more (by simp))).mono ?_; rintro _ W1 ⟨rfl, hb1⟩; have hw1 : Below w.heap.size w W1 := bl2 (bla (Below.refl _ _)) hb1; rw [hg]) | (go_at_call 15; refine (known_any _).mono ?_; rintro _ Wk ⟨rfl, hbk'⟩))
    go_ret
    exact ⟨rfl, bl2 hw1 hbk'⟩
  · simp only [Bool.not_eq_true] at hg
    cases hv : schB s with
    | false => exact lwenough_no s at8 w HRR HN0 hg hv
    | true => exact lwenough_yes s at8 w HRR HN0 hg hv ha.1 ha.2
end Go.Proofs.Ytidlmbajpbbilaa

/- The law SchoolComments: the plain law (begun): a school for one kind of questions; a school of cases. -/
import Derived.Test.YtidlmbajpbbilaaZ21ChA
import Derived.Test.YtidlmbajpbbilaaZ20HlF
namespace Go.Proofs.Ytidlmbajpbbilaa
open Go.RowKit

def Rul.only (kind : Int) (r : Rul) : Rul := { r with kinds := r.kinds / 2 ^ kind.toNat % 2 }
/-- a school for one kind of questions -/
def Sch.only (s : Sch) (kind : Int) : Sch := { s with kinds := 1, rules := s.rules.map (Rul.only kind) }
theorem only_get (s : Sch) (kind : Int) (i : Nat) : (s.only kind).rules[i]? = (s.rules[i]?).map (Rul.only kind) := by simp [Sch.only]
theorem only_len (s : Sch) (kind : Int) : (s.only kind).rules.length = s.rules.length := by simp [Sch.only]
theorem kbit_only (r : Rul) (kind : Int) : kbit (r.only kind) 0 = kbit r kind := by
  simp only [kbit, Rul.only, Int.toNat_zero, Int.pow_zero, Int.ediv_one]
  rw [Int.emod_emod_of_dvd _ (Int.dvd_refl 2)]
theorem appl_only (s : Sch) (kind : Int) (ch : List Int) : appl (s.only kind) ch = appl s ch := by
  funext i; simp only [appl, only_get]; cases s.rules[i]? <;> rfl
theorem spks_only (s : Sch) (hold : Nat → Bool) (kind : Int) : ∀ n, spks (s.only kind) hold 0 n = spks s hold kind n
  | 0 => rfl
  | n + 1 => by
    have ih := spks_only s hold kind n
    funext i
    simp only [spks, only_get, ih]
    cases s.rules[n]? with
    | none => rfl
    | some r => simp only [Option.map_some, kbit_only]; rfl
theorem sp_only (s : Sch) (hold : Nat → Bool) (kind : Int) : sp (s.only kind) hold 0 = sp s hold kind := by funext i; simp only [sp, spks_only]
theorem rnk_only (s : Sch) (kind : Int) : rnk (s.only kind) = rnk s := by
  funext i; simp only [rnk, only_get]; cases s.rules[i]? <;> rfl
theorem topR_only (s : Sch) (kind : Int) (f : Nat → Bool) : ∀ n, topR (s.only kind) f n = topR s f n
  | 0 => rfl
  | n + 1 => by simp only [topR, topR_only s kind f n, rnk_only]
theorem sys_only (s : Sch) (kind : Int) : sys (s.only kind) = sys s := by
  funext i; simp only [sys, only_get]; cases s.rules[i]? <;> rfl
theorem saidTo_only (s : Sch) (kind : Int) (L : Nat) : ∀ n, saidTo (s.only kind) L n = saidTo s L n
  | 0 => rfl
  | n + 1 => by funext a; simp only [saidTo, saidTo_only s kind L n, sys_only]
/-- read for its one kind as the school for that kind -/
theorem ansN_only (s : Sch) (O : Nat) (kind : Int) (ch : List Int) : ansN (s.only kind) O 0 ch = ansN s O kind ch := by
  have e : mainN (s.only kind) O 0 ch = mainN s O kind ch := by
    simp only [mainN, mainOf, only_len, sp_only, appl_only]
    congr 1
    funext i
    simp only [mainS, topR_only, rnk_only]
  simp only [ansN, ansOf, e, only_len, saidTo_only]
end Go.Proofs.Ytidlmbajpbbilaa
namespace Go.Proofs.Ytidlmbajpbbilaa
open Go.RowKit

/-- the blocks that Count of the reference uses: ob the numbers -/
structure RC (s : Sch) (N : Nat) (w : World) (ob : Nat) (c0 c1 c2 : Int) (L : List Int) (W : World) : Prop where
  low : Below w.heap.size w W
  o1 : w.heap.size + 1 + 1 < ob
  sz : ob < W.heap.size
  k0 : Blk W w.heap.size #[.int .i64 s.places, .int .i64 s.signs, .int .i64 s.kinds, .int .i64 s.answers, s.rv] 24
  k1 : Blk W (w.heap.size + 1) #[.int .i64 0, .int .i64 0, .int .i64 0, .slice none 0 0] 30
  kg : Blk W (w.heap.size + 1 + 1) (L.map (Value.int .i64)).toArray 3
  ko : Blk W ob #[.int .i64 c0, .int .i64 c1, .int .i64 c2, .slice (some ⟨w.heap.size + 1 + 1, 0, none⟩) N N] 30
section
variable {s : Sch} {N : Nat} {w W W' : World} {ob : Nat} {c0 c1 c2 : Int} {L : List Int}
theorem RC.below (h : RC s N w ob c0 c1 c2 L W) (hb : Below W.heap.size W W') : RC s N w ob c0 c1 c2 L W' := by
  have hs := h.sz; have hz := hb.size; have ho := h.o1
  exact ⟨h.low.trans (hb.mono h.low.size), ho, by omega, h.k0.below hb (by omega), h.k1.below hb (by omega), h.kg.below hb (by omega), h.ko.below hb (by omega)⟩
theorem RC.set0 (h : RC s N w ob c0 c1 c2 L W) (x : Int) : RC s N w ob x c1 c2 L (W.setCell ⟨ob, 0, none⟩ (.int .i64 x)) := by
  have hs := h.sz; have ho := h.o1
  exact ⟨h.low.setCell (by first | omega | (simp; omega) | (simp; done)) _, ho, by simpa using hs, h.k0.far _ (by first | omega | (simp; omega) | (simp; done)) _, h.k1.far _ (by first | omega | (simp; omega) | (simp; done)) _, h.kg.far _ (by first | omega | (simp; omega) | (simp; done)) _, h.ko.set 0 _⟩
theorem RC.set1 (h : RC s N w ob c0 c1 c2 L W) (x : Int) : RC s N w ob c0 x c2 L (W.setCell ⟨ob, 1, none⟩ (.int .i64 x)) := by
  have hs := h.sz; have ho := h.o1
  exact ⟨h.low.setCell (by first | omega | (simp; omega) | (simp; done)) _, ho, by simpa using hs, h.k0.far _ (by first | omega | (simp; omega) | (simp; done)) _, h.k1.far _ (by first | omega | (simp; omega) | (simp; done)) _, h.kg.far _ (by first | omega | (simp; omega) | (simp; done)) _, h.ko.set 1 _⟩
theorem RC.set2 (h : RC s N w ob c0 c1 c2 L W) (x : Int) : RC s N w ob c0 c1 x L (W.setCell ⟨ob, 2, none⟩ (.int .i64 x)) := by
  have hs := h.sz; have ho := h.o1
  exact ⟨h.low.setCell (by first | omega | (simp; omega) | (simp; done)) _, ho, by simpa using hs, h.k0.far _ (by first | omega | (simp; omega) | (simp; done)) _, h.k1.far _ (by first | omega | (simp; omega) | (simp; done)) _, h.kg.far _ (by first | omega | (simp; omega) | (simp; done)) _, h.ko.set 2 _⟩
theorem RC.setL (h : RC s N w ob c0 c1 c2 L W) (j : Nat) (x : Int) : RC s N w ob c0 c1 c2 (L.set j x) (W.setCell ⟨w.heap.size + 1 + 1, j, none⟩ (.int .i64 x)) := by
  have hs := h.sz; have ho := h.o1
  refine ⟨h.low.setCell (by first | omega | (simp; omega) | (simp; done)) _, ho, by simpa using hs, h.k0.far _ (by first | omega | (simp; omega) | (simp; done)) _, h.k1.far _ (by first | omega | (simp; omega) | (simp; done)) _, ?_, h.ko.far _ (by first | omega | (simp; omega) | (simp; done)) _⟩
  have := h.kg.set j (.int .i64 x)
  rw [List.setIfInBounds_toArray, ← List.map_set] at this
  exact this
theorem RC.said (h : RC s N w ob c0 c1 c2 L W) {y : Nat} {v : Int} (hy : L[y]? = some v) : W.cell? ⟨w.heap.size + 1 + 1, y, none⟩ = some (.int .i64 v) := by
  rw [h.kg.cell]; simp [hy]
end
/-- what Count of the reference finds among the first k charts -/
abbrev RCK (s : Sch) (kind : Int) (sets : List Int) (N : Nat) (w : World) (ob k : Nat) (W : World) : Prop :=
  RC s N w ob (cnt (inR s sets) k) (cnt (silR s sets kind) k) (cnt (splR s sets kind) k) (saidL s sets kind k) W
/-- charts, silent, split, said -/
def censusP (s : Sch) (kind : Int) (sets : List Int) : Int × Int × Int × List Int := (cnt (inR s sets) (chartsC s), cnt (silR s sets kind) (chartsC s), cnt (splR s sets kind) (chartsC s), saidL s sets kind (chartsC s))
def RetCen (x : Int × Int × Int × List Int) (w : World) (e : Ending) (w' : World) : Prop :=
  ∃ A c, e = .returned (.agg #[.int .i64 x.1, .int .i64 x.2.1, .int .i64 x.2.2.1, .slice A x.2.2.2.length c]) ∧ Sl intCell 1 w' w'.heap.size A x.2.2.2 ∧ Below w.heap.size w w'
theorem rck_out {s : Sch} {kind : Int} {sets : List Int} {N : Nat} {w W : World} {ob k : Nat} (h : inR s sets k = false) (hc : RCK s kind sets N w ob k W) : RCK s kind sets N w ob (k + 1) W := by
  unfold RCK at *
  rw [cnt_no h, cnt_no (by simp [silR, h]), cnt_no (by simp [splR, h]), saidL_same (fun a => by simp [saidR, h])]; exact hc
theorem own_from {w : World} {base size : Nat} {e : TypeId} {A : Option Addr} {n c : Nat} {xs : List Value} (h : w.ownsRow base e size (.slice A n c) n xs) : ∀ q, A = some q → base ≤ q.block := fun q hq => by
  rcases h.2 with ⟨hv, _⟩ | ⟨g, cap, cur, hv, hb, _⟩
  · rw [hq] at hv; cases hv
  · rw [hq] at hv; cases hv; exact hb
theorem chartsC_int {s : Sch} (V : Valid s) : ((chartsC s : Nat) : Int) = chartsN s.signs s.places.toNat := by
  have := chartsN_bd s.signs V.signs.1 s.places.toNat
  unfold chartsC; omega
theorem readP_kind (s : Sch) (kind : Int) (k : Nat) : (readP s kind (chartL s k)).1 = kdAt s kind k := rfl
set_option maxRecDepth 100000 in
set_option maxHeartbeats 8000000 in
theorem rcount_any (s : Sch) (V : Valid s) (V3 : ∀ r ∈ s.rules, ∀ t ∈ r.when_, TestFit3 s.places.toNat t) (kind : Int) (sets : List Int) (A : Option Addr) (c : Nat) (w : World) (hr : s.reads w w.heap.size) (hk : inB kind 0 (s.kinds - 1) = true) (hc : regB s sets = true)
    (ho : ∀ x ∈ sets, IsU64 x) (hA : Sl setCell1 1 w w.heap.size A sets) :
    Calls Try.prog 21 #[scv s s.rv, .int .i64 kind, .slice A sets.length c] w (RetCen (censusP s kind sets) w) := by
  obtain ⟨i0, hi, iz0, iz1, iz2⟩ := info_parts infoInt
  have HRR := Lib.hid hr; have HA := Lib.hid hA; have HO := Lib.hid ho; have HV3 := Lib.hid V3; have HV := Lib.hid V
  have hsl : Hid (sets.length = s.places.toNat) := by show _ = _; simp [regB] at hc; omega
  have hsm := V.small
  have hc4 := V.charts
  have HCI := Lib.hid (chartsC_int V)
  obtain ⟨m0, m1⟩ := inB_iff.1 hk
  obtain ⟨N, hN⟩ := Int.eq_ofNat_of_zero_le (a := s.answers) (by have := V.answers; omega)
  have hN20 : N ≤ 20 := by have := V.answers; omega
  have HN := Lib.hid hN
  clear hr hA ho hc hk V3 V hN
  go_enter Try.func21, Try.ntmps21
  go_wp2_with (at_make; refine wpList_make_blk _ rfl _ _ 28 rfl 3 i0 (.int .i64 0) uInts hi iz0 iz1 rfl .i64 .i64 _ _ N rfl rfl HN.out HN.out (by rw [iz2]; omega) (by unfold maxLen; omega) ?_; intro W1 gS bS)
  refine Lib.hid ?_
  have H0 : Hid (RCK s kind sets N w W1.heap.size 0 (W1.alloc (.cells #[.int .i64 0, .int .i64 0, .int .i64 0, .slice (some ⟨w.heap.size + 1 + 1, 0, none⟩) N N] 30))) := (by
    have b0 : Below w.heap.size w W1 := (((Below.refl _ w).alloc (Nat.le_refl _) _).alloc (by simp) _).trans (bS.mono (by simp; omega))
    have hz := bS.size
    have hg := gS.lt
    simp only [World.size_alloc] at hg hz gS
    refine ⟨b0.alloc (by omega) _, by omega, by simp, ?_, ?_, ?_, ?_⟩
    · exact Blk.alloc ((bS.block _ (by simp; omega)).trans ((Blk.at_ rfl).alloc _)) _
    · exact Blk.alloc ((bS.block _ (by simp)).trans (Blk.at_ (by simp))) _
    · have e : (saidL s sets kind 0).map (Value.int .i64) = List.replicate N (.int .i64 0) := by
        have := HN.out
        simp only [saidL, cnt, this]
        simp [List.map_const']
      rw [e]
      exact Blk.alloc gS _
    · exact Blk.at_ rfl : RCK s kind sets N w W1.heap.size 0 _)
  go_wp2
  have hob : Hid (∃ o, W1.heap.size = o) := ⟨_, rfl⟩
  obtain ⟨ob, hobe⟩ := hob.out
  rw [hobe] at H0 ⊢
  refine gen_w (fun W => RCK s kind sets N w ob 0 W) H0.out ?_
  clear H0 gS bS hobe hob
  intro w0 h0
  have H0 := Lib.hid h0
  clear h0
  go_loopw [8] (fun i wr => ∃ k : Nat, k ≤ chartsC s ∧ i = .int .i64 k ∧ Hid (RCK s kind sets N w ob k wr)) (fun i _ => chartsC s - (intOf i).toNat)
  case atStart => exact ⟨0, by omega, rfl, H0⟩
  case round =>
    obtain ⟨k, hk, rfl, HC⟩ := hrel
    have q0 := HC.out.k0.cell 0; have q1 := HC.out.k0.cell 1; have q2 := HC.out.k0.cell 2; have q3 := HC.out.k0.cell 3; have q4 := HC.out.k0.cell 4
    have o0 := HC.out.ko.cell 0; have o1 := HC.out.ko.cell 1; have o2 := HC.out.ko.cell 2; have o3 := HC.out.ko.cell 3
    have p0 := HC.out.ko.free 0; have p1 := HC.out.ko.free 1; have p2 := HC.out.ko.free 2
    simp at q0 q1 q2 q3 q4 o0 o1 o2 o3
    have hlow := HC.out.low
    have hcin := HCI.out
    by_cases hlt : k < chartsC s
    · have d : decide ((k : Int) < chartsN s.signs s.places.toNat) = true := by simp; omega
      have hk4 : (k : Int) ≤ 4096 := by omega
      have hln : Hid ((chartL s k).length = s.places.toNat) := (digits_len _ _ _ : (chartL s k).length = s.places.toNat)
      clear hcin
      go_wp2_with (first | (go_at_call 40; refine (rcharts_any s s.rv hsm _).mono ?_; rintro _ Wa ⟨rfl, hba⟩; have hka := (HC.out.below hba).k0.cell; have q0 := hka 0; have q1 := hka 1; have q2 := hka 2; have q3 := hka 3; have q4 := hka 4; simp at q0 q1 q2 q3 q4; clear hka) |
        (go_at_call 41; refine (rchart_any s s.rv k hsm (by omega) hk4 _).mono ?_; rintro _ Wb ⟨v, rfl, hown, hbb⟩; refine Hid.out ?_))
      have hx : Below wr.heap.size wr Wb := bl2 hba hbb
      obtain ⟨A', c', rfl, hA'⟩ := Sl.of_own hown
      have HB := Lib.hid (HC.out.below hx)
      refine Lib.hid ?_
      refine gen_w (fun W => RCK s kind sets N w ob k W ∧ SlZ intCell 1 (ob + 1) W A' (chartL s k)) ⟨HB.out, hA', fun q hq => by have h1 := own_from hown q hq; have h2 := hba.size; have h3 := HC.out.sz; omega⟩ ?_
      clear HB hown hA' hx hba hbb HC q0 q1 q2 q3 q4 o0 o1 o2 o3 p0 p1 p2 hlow d Wa
      clear Wb
      rintro Wb ⟨hC, hA'⟩
      have HC := Lib.hid hC
      have HA' := Lib.hid hA'
      have hlow := hC.low
      clear hC hA'
      have q0 := HC.out.k0.cell 0; have q1 := HC.out.k0.cell 1; have q2 := HC.out.k0.cell 2; have q3 := HC.out.k0.cell 3; have q4 := HC.out.k0.cell 4
      have o0 := HC.out.ko.cell 0; have o1 := HC.out.ko.cell 1; have o2 := HC.out.ko.cell 2; have o3 := HC.out.ko.cell 3
      have p0 := HC.out.ko.free 0; have p1 := HC.out.ko.free 1; have p2 := HC.out.ko.free 2
      simp at q0 q1 q2 q3 q4 o0 o1 o2 o3
      have hrh : Hid (∀ W, Below Wb.heap.size Wb W → Calls Try.prog 63 #[.slice A sets.length c, .slice A' (chartL s k).length c'] W fun e w' => e = .returned (.bool (inR s sets k)) ∧ Below W.heap.size W w') := fun W hW =>
        rhas_any A A' c c' sets (chartL s k) W (by rw [hln.out]; have := hsm.2.1; omega) (by rw [hln.out, hsl.out]) HO.out (chartL_bd HV.out k) ((HA.out.below (bl2 hlow hW)).more (bl2 hlow hW).size) ((HA'.out.1.below hW).more hW.size)
      cases hin : inR s sets k with
      | false =>
        rw [hin] at hrh
        have HIN := Lib.hid hin
        clear hin
        go_wp2_with (go_at_call 63; refine (hrh.out _ (Below.refl _ _)).mono ?_; rintro _ Wc ⟨rfl, hbc⟩)
        go_roundw
        case rel => exact ⟨k + 1, by omega, by go_num, rck_out HIN.out (HC.out.below hbc)⟩
        case measure => simp [intOf]; omega
      | true =>
        rw [hin] at hrh
        have hcb := cnt_bd (inR s sets) k
        have hcb1 := cnt_bd (silR s sets kind) k
        have hcb2 := cnt_bd (splR s sets kind) k
        have HX0 := Lib.hid (cnt_yes hin)
        have HIN := Lib.hid hin
        obtain ⟨x0, hx0⟩ : ∃ x, x = cnt (inR s sets) k := ⟨_, rfl⟩
        have HXE := Lib.hid hx0
        rw [← hx0] at hcb HX0 o0
        obtain ⟨kd, RQ, RM, hRP⟩ : ∃ a b c, readP s kind (chartL s k) = (a, b, c) := ⟨_, _, _, rfl⟩
        have HRP := Lib.hid hRP
        clear hin hx0 hRP
        go_wp2_with (first | (go_at_call 63; refine (hrh.out _ (Below.refl _ _)).mono ?_; rintro _ Wc ⟨rfl, hbc⟩; have HD := Lib.hid (HC.out.below hbc); have hlow := HD.out.low; have hz := HD.out.sz; have hzo := HD.out.o1; have HSZ := fun (v : Value) => (HA'.out.keep (W' := Wc.setCell ⟨ob, 0, none⟩ v) (fun p h1 h2 => (World.cell?_setCell_far _ _ _ _ (by simp; omega)).trans (hbc.cell h2)) (by simpa using hbc.size)); (have q0 := HD.out.k0.cell 0; have q1 := HD.out.k0.cell 1; have q2 := HD.out.k0.cell 2; have q3 := HD.out.k0.cell 3; have q4 := HD.out.k0.cell 4; have o0 := HD.out.ko.cell 0; have o1 := HD.out.ko.cell 1; have o2 := HD.out.ko.cell 2; have o3 := HD.out.ko.cell 3; have p0 := HD.out.ko.free 0; have p1 := HD.out.ko.free 1; have p2 := HD.out.ko.free 2; simp at q0 q1 q2 q3 q4 o0 o1 o2 o3; rw [← HXE.out] at o0)) |
          (go_at_call 44; refine (rread_any s HV.out HV3.out (chartL s k) kind A' c' _ _ ((HRR.out.below (hlow.setCell (by first | omega | (simp; omega) | (simp; done)) _)).more (hlow.setCell (by first | omega | (simp; omega) | (simp; done)) _).size) m0 (by omega) hln.out rfl (chartL_bd HV.out k) (HSZ _).1).mono ?_; rw [HRP.out]; rintro _ Wd ⟨Y1, y1, Z1, z1, rfl, hY1, hZ1, hbd⟩; refine Hid.out ?_))
        have HE := Lib.hid ((HD.out.set0 (x0 + 1)).below hbd)
        have HY := Lib.hid hY1
        refine Lib.hid ?_
        refine gen_w (fun W => RC s N w ob (x0 + 1) (cnt (silR s sets kind) k) (cnt (splR s sets kind) k) (saidL s sets kind k) W ∧ Sl intCell 1 W W.heap.size Y1 RQ) ⟨HE.out, HY.out⟩ ?_
        clear HE HY hY1 hZ1 hbd HSZ HD hlow hz hzo HC HA' hrh q0 q1 q2 q3 q4 o0 o1 o2 o3 p0 p1 p2 hbc
        clear Wd
        rintro Wd ⟨hE, hY⟩
        have HE := Lib.hid hE; have HY := Lib.hid hY
        have hz := hE.sz; have hzo := hE.o1
        clear hE hY
        have q0 := HE.out.k0.cell 0; have q1 := HE.out.k0.cell 1; have q2 := HE.out.k0.cell 2; have q3 := HE.out.k0.cell 3; have q4 := HE.out.k0.cell 4
        have o0 := HE.out.ko.cell 0; have o1 := HE.out.ko.cell 1; have o2 := HE.out.ko.cell 2; have o3 := HE.out.ko.cell 3
        have p0 := HE.out.ko.free 0; have p1 := HE.out.ko.free 1; have p2 := HE.out.ko.free 2
        simp at q0 q1 q2 q3 q4 o0 o1 o2 o3
        have hk1 : Hid (kd = kdAt s kind k) := (by have h := HRP.out; rw [← readP_kind, h] : kd = kdAt s kind k)
        rcases kindOf_cases (ansL s kind k) with hkd | hkd | hkd
        · have hl0 := kindOf_two hkd
          have e1 := Lib.hid (cnt_yes (p := silR s sets kind) (k := k) (by simp [silR, HIN.out, kdAt, hkd]))
          have e2 := Lib.hid (cnt_no (p := splR s sets kind) (k := k) (by simp [splR, kdAt, hkd]))
          have e3 := Lib.hid (saidL_same (s := s) (sets := sets) (kind := kind) (k := k) (fun a => by simp [saidR, hl0]))
          obtain rfl : kd = 2 := hk1.out.trans hkd
          clear hkd hl0 hk1
          go_wp2
          go_roundw
          case rel => exact ⟨k + 1, by omega, by go_num, by show RCK _ _ _ _ _ _ _ _; unfold RCK; rw [HX0.out, e1.out, e2.out, e3.out]; exact (HE.out.set1 _).below ((Below.refl _ _).alloc (Nat.le_refl _) _)⟩
          case measure => simp [intOf]; omega
        · have e1 := Lib.hid (cnt_no (p := silR s sets kind) (k := k) (by simp [silR, kdAt, hkd]))
          have e2 := Lib.hid (cnt_yes (p := splR s sets kind) (k := k) (by simp [splR, HIN.out, kdAt, hkd]))
          have e3 := Lib.hid (saidL_same (s := s) (sets := sets) (kind := kind) (k := k) (fun a => by
            have hne : ansL s kind k ≠ [a] := fun e => by rw [e] at hkd; simp [kindOf] at hkd
            simp [saidR, hne]))
          obtain rfl : kd = 3 := hk1.out.trans hkd
          clear hkd hk1
          go_wp2
          go_roundw
          case rel => exact ⟨k + 1, by omega, by go_num, by show RCK _ _ _ _ _ _ _ _; unfold RCK; rw [HX0.out, e1.out, e2.out, e3.out]; exact (HE.out.set2 _).below ((Below.refl _ _).alloc (Nat.le_refl _) _)⟩
          case measure => simp [intOf]; omega
        · obtain ⟨y, hy⟩ := kindOf_one hkd
          have hyp : ansOf s 0 kind (chartL s k) y = true := by
            have : y ∈ ansL s kind k := by rw [hy]; simp
            exact (List.mem_filter.1 this).2
          have hyl := saidTo_lt HV.out _ hyp
          have e1 := Lib.hid (cnt_no (p := silR s sets kind) (k := k) (by simp [silR, kdAt, hkd]))
          have e2 := Lib.hid (cnt_no (p := splR s sets kind) (k := k) (by simp [splR, kdAt, hkd]))
          have e3 := Lib.hid (saidL_next (s := s) (sets := sets) (kind := kind) (k := k) (y := y) (fun a => by rw [Bool.eq_iff_iff]; simp [saidR, HIN.out, hy]; exact eq_comm))
          have e4 := saidL_get (s := s) (sets := sets) (kind := kind) (k := k) hyl
          have hcb3 := cnt_bd (saidR s sets kind y) k
          obtain ⟨v, hv⟩ : ∃ v, v = cnt (saidR s sets kind y) k := ⟨_, rfl⟩
          rw [← hv] at e3 e4 hcb3
          obtain rfl : kd = 1 := hk1.out.trans hkd
          have hRQ : RQ = [(y : Int)] := by
            have h := HRP.out
            have h2 : (readP s kind (chartL s k)).2.1 = RQ := by rw [h]
            rw [← h2]
            show bitsOf (ansN s 0 kind (chartL s k)) = _
            rw [bitsOf_ans, show (List.range 20).filter (ansOf s 0 kind (chartL s k)) = [y] from hy]; rfl
          subst hRQ
          obtain ⟨yb, yo, rfl, hyb, hyc⟩ := HY.out.at_ (k := 0) (fun _ => rfl) (by simp)
          have y0 : Wd.cell? ⟨yb, yo, none⟩ = some (.int .i64 (y : Int)) := by have := hyc 0 _ rfl; simpa using this
          have hyN : y < N := by have := HN.out; omega
          have E4 := Lib.hid e4
          clear hkd hk1 hy hyp hyl e4 hv hyc HY
          go_wp2
          refine gen_w (fun W => RC s N w ob (x0 + 1) (cnt (silR s sets kind) k) (cnt (splR s sets kind) k) (saidL s sets kind k) W ∧ Blk W Wd.heap.size #[.int .i64 1, .slice (some ⟨yb, yo, none⟩) 1 y1, .slice Z1 RM.length z1] 73 ∧ W.cell? ⟨yb, yo, none⟩ = some (.int .i64 (y : Int))) ⟨HE.out.below ((Below.refl _ _).alloc (Nat.le_refl _) _), Blk.new _ _ _, by rw [← y0]; exact ((Below.refl _ _).alloc (Nat.le_refl _) _).cell (p := ⟨yb, yo, none⟩) hyb⟩ ?_
          obtain ⟨rb, hrb⟩ : ∃ r, r = Wd.heap.size := ⟨_, rfl⟩
          rw [← hrb]
          clear HE y0 q0 q1 q2 q3 q4 o0 o1 o2 o3 p0 p1 p2 hz hyb hrb
          clear Wd
          rintro We ⟨hE, gr, y0⟩
          have t2 := hE.said E4.out
          have t3 := hE.kg.free y
          have o3 := hE.ko.cell 3
          have r1 := gr.cell 1
          simp at o3 r1
          have HE := Lib.hid hE
          clear hE
          have hy0 : (0 : Int) ≤ (y : Int) := by omega
          have hyN' : (y : Int) < (N : Int) := by omega
          have hv0 : (0 : Int) ≤ v := by omega
          have hv1 : v ≤ 4096 := by omega
          go_region
          all_goals (
            go_wp2
            go_roundw
            case rel => exact ⟨k + 1, by omega, by go_num, by show RCK _ _ _ _ _ _ _ _; unfold RCK; rw [HX0.out, e1.out, e2.out, e3.out]; exact (HE.out.below ((Below.refl _ _).drew)).setL _ _⟩
            case measure => simp [intOf]; omega)
    · obtain rfl : k = chartsC s := by omega
      have d : decide (((chartsC s : Nat) : Int) < chartsN s.signs s.places.toNat) = false := by simp; omega
      clear hcin
      go_wp2_with (go_at_call 40; refine (rcharts_any s s.rv hsm _).mono ?_; rintro _ Wa ⟨rfl, hba⟩; have HD := Lib.hid (HC.out.below hba); have o0 := HD.out.ko.cell 0; have o1 := HD.out.ko.cell 1; have o2 := HD.out.ko.cell 2; have o3 := HD.out.ko.cell 3; have f0 := HD.out.k1.free 0; have f1 := HD.out.k1.free 1; have f2 := HD.out.k1.free 2; have f3 := HD.out.k1.free 3; have z0 := HD.out.k1.cell 0; have z1 := HD.out.k1.cell 1; have z2 := HD.out.k1.cell 2; have z3 := HD.out.k1.cell 3; simp at o0 o1 o2 o3 z0 z1 z2 z3)
      refine gen_w (fun W => Below w.heap.size w W ∧ Blk W (w.heap.size + 1) #[.int .i64 (cnt (inR s sets) (chartsC s)), .int .i64 (cnt (silR s sets kind) (chartsC s)), .int .i64 (cnt (splR s sets kind) (chartsC s)), .slice (some ⟨w.heap.size + 1 + 1, 0, none⟩) N N] 30 ∧ Blk W (w.heap.size + 1 + 1) ((saidL s sets kind (chartsC s)).map (Value.int .i64)).toArray 3) ?_ ?_
      · refine ⟨(((HD.out.low.setCell (by first | omega | (simp; omega) | (simp; done)) _).setCell (by first | omega | (simp; omega) | (simp; done)) _).setCell (by first | omega | (simp; omega) | (simp; done)) _).setCell (by first | omega | (simp; omega) | (simp; done)) _, (((HD.out.k1.set 0 _).set 1 _).set 2 _).set 3 _, (((HD.out.kg.far _ (by simp) _).far _ (by simp) _).far _ (by simp) _).far _ (by simp) _⟩
      rintro Wf ⟨hbf, g1, g2⟩
      have e0 := g1.cell 0; have e1 := g1.cell 1; have e2 := g1.cell 2; have e3 := g1.cell 3
      simp at e0 e1 e2 e3
      refine bodyPost_ret (v := .agg #[.int .i64 (cnt (inR s sets) (chartsC s)), .int .i64 (cnt (silR s sets kind) (chartsC s)), .int .i64 (cnt (splR s sets kind) (chartsC s)), .slice (some ⟨w.heap.size + 1 + 1, 0, none⟩) N N]) (by simp [results, Try.results21, go_sem, e0, e1, e2, e3]) rfl ?_
      refine ⟨some ⟨w.heap.size + 1 + 1, 0, none⟩, N, ?_, sl_of_blk g2, hbf⟩
      simp only [censusP, saidL_len]
      rw [HN.out]; rfl
end Go.Proofs.Ytidlmbajpbbilaa

/- habit: Rank. -/
import Derived.Test.YtiikkcifdhcejaaZ31Ww
import Derived.Test.YtiikkcifdhcejaaWm
import Derived.Test.YtiikkcifdhcejaaUg
namespace Go.Proofs.Ytiikkcifdhcejaa
open Go.RowKit

theorem gen_al {R : Act → World → Prop} {a : Act} {W : World} {o : Obj} (h : ∀ V, Below W.heap.size W V → V.heap[W.heap.size]? = some o → R a V) : R a (W.alloc o) := h _ ((Below.refl _ _).alloc (Nat.le_refl _) _) (heap_alloc_new W o)
theorem regs_all {ms : List HMd} {l : List Int} (h : regsE ms l = 0) : ∀ m ∈ ms, ModOk m ∧ regB m.outs l ∧ l.length ≤ 400 := by
  cases ms with
  | nil => intro m hm; cases hm
  | cons m0 t => intro m hm; have h1 := (regs_zero h).1 m hm; exact ⟨h1.1, h1.2.2, (regs_zero h).2⟩
theorem ent_rank1 : Ent 73 := ent_of Try.func73 (by kernel_rfl) rfl
/-- what a score of model k is -/
def rkP (ms : List HMd) (l : List Int) (k : Nat) : Nat := match ms[k]? with | some m => ovN m l l.length | none => 0
def rkQ (ms : List HMd) (l : List Int) (k : Nat) : Nat := match ms[k]? with | some m => unN m l l.length | none => 0
def rkV (ms : List HMd) (l : List Int) (x o : Nat) : Int := cmpN (rkP ms l o * rkQ ms l x) (rkP ms l x * rkQ ms l o)
def rkC (ms : List HMd) (l : List Int) (o x : Nat) : Bool := decide (rkV ms l x o < 0)
def rkL (ms : List HMd) (l : List Int) : List Int := (rankL (rkC ms l) ms.length).map fun (x : Nat) => (x : Int)
theorem rkL_len (ms : List HMd) (l : List Int) : (rkL ms l).length = ms.length := by simp [rkL, rankL_len]
def hrankR (ms : List HMd) (l : List Int) : List Int × Int := if 20 < ms.length then ([], 5) else if regsE ms l = 0 then (rkL ms l, 0) else ([], regsE ms l)
theorem OrdB.sl {W : World} {g : Nat} {L : List Nat} {rest : List Value} (h : OrdB W g L rest) : Sl intCell 1 W W.heap.size (some ⟨g, 0, none⟩) (L.map fun (x : Nat) => (x : Int)) := by
  refine ⟨by rw [flat_int]; simp, fun _ => ⟨g, 0, rfl, Blk.lt h, fun j u hu => ?_⟩⟩
  rw [flat_int, List.map_map] at hu
  have hj : j < L.length := by
    rcases Nat.lt_or_ge j L.length with h1 | h1
    · exact h1
    · rw [List.getElem?_eq_none (by simpa using h1)] at hu; cases hu
  have := (h.at_ hj).1
  rw [Nat.zero_add, this, ← hu, List.getElem?_map, List.getElem?_eq_getElem hj, List.getD_eq_getElem?_getD, List.getElem?_eq_getElem hj]
  rfl
theorem RkI.appX {w : World} {b7 : Nat} {bv sv ov : Value} {m : Nat} {scs : List Sco} {x : Sco} {P Q : Nat → Nat} {len : Nat} {W W' : World} (h : RkI w b7 bv sv ov scs.length m (scs ++ [x]) P Q len W) {g cap : Nat} (hg : W.grownBy W' sv.ownBlock) (hown : W'.ownsRow w.heap.size 79 2 (.slice (some ⟨g, 0, none⟩) (scs.length + 1) cap) (scs.length + 1) (flat Sco.cells ((scs ++ [x]).take scs.length) ++ [.slice x.A x.n x.c, .slice x.A2 x.n2 x.c2])) (hat : sv.ownBlock = some g ∨ g = W.heap.size) : RkI w b7 bv (.slice (some ⟨g, 0, none⟩) (scs.length + 1) cap) ov (scs.length + 1) m (scs ++ [x]) P Q len W' :=
  h.appS (by simp) hg (by rw [List.getElem_concat_length rfl]; exact hown) (hat.imp (fun e => e.symm) (fun e => by rw [← e]; rfl))
theorem RkI.appY {w : World} {b7 : Nat} {bv sv ov : Value} {n m : Nat} {scs : List Sco} {P Q : Nat → Nat} {len : Nat} {W W' : World} (h : RkI w b7 bv sv ov n m scs P Q len W) {g cap : Nat} (hg : W.grownBy W' ov.ownBlock) (hown : W'.ownsRow w.heap.size 3 1 (.slice (some ⟨g, 0, none⟩) (m + 1) cap) (m + 1) (((List.range m).map fun (x : Nat) => Value.int .i64 (x : Int)) ++ [.int .i64 (m : Int)])) (hat : ov.ownBlock = some g ∨ g = W.heap.size) : RkI w b7 bv sv (.slice (some ⟨g, 0, none⟩) (m + 1) cap) n (m + 1) scs P Q len W' :=
  h.appO hg hown (hat.imp (fun e => e.symm) (fun e => by rw [← e]; rfl))
theorem infoSc : (Try.prog.info? 79).map (fun i => (i.zero, i.size, i.bytes)) = some (some (.agg #[.slice none 0 0, .slice none 0 0]), 2, 48) := by kernel_rfl
theorem uScL : Try.prog.underlying 118 = some (.slice 79) := by kernel_rfl
set_option maxRecDepth 100000 in
set_option maxHeartbeats 4000000 in
theorem hrank_any (mA : Option Addr) (mc : Nat) (ms : List Md) (lA : Option Addr) (lc : Nat) (l : List Int) (w : World) (hl : l.length ≤ 1000000) (hm : ms.length ≤ 1000000) (hs : Mds w w.heap.size mA ms) (hr : Sl intCell 1 w w.heap.size lA l) :
    Calls Try.prog 37 #[.slice mA ms.length mc, .slice lA l.length lc] w (RetSlE (hrankR (ms.map Md.m) l).1 (hrankR (ms.map Md.m) l).2 w) := by
  obtain ⟨i1, hi1, iy0, iy1, iy2⟩ := info_parts infoSc
  obtain ⟨i0', hInf, iz0, iz1, iz2⟩ := info_parts infoInt
  by_cases h20 : 20 < ms.length
  · have e1 : hrankR (ms.map Md.m) l = ([], 5) := by unfold hrankR; rw [if_pos (by simpa using h20)]
    rw [e1]
    have d1 : decide ((20 : Int) < (ms.length : Int)) = true := decide_eq_true (by omega)
    clear hs hr e1
    go_enter Try.func37, Try.ntmps37
    go_wp2
    exact bodyPost_ret (v := .tuple #[.slice none 0 0, .int .i64 5]) (by simp [results, Try.results37, go_sem]) rfl (retSlE_nil (Below.refl _ _))
  have d1 : decide ((20 : Int) < (ms.length : Int)) = false := decide_eq_false (by omega)
  have HC := Lib.hid (checkR_any lA lc l mA mc ms w hl hm hr hs)
  obtain ⟨er, her⟩ : ∃ e, e = regsE (ms.map Md.m) l := ⟨_, rfl⟩
  rw [← her] at HC
  by_cases h0 : er = 0
  case neg =>
    have e1 : hrankR (ms.map Md.m) l = ([], er) := by unfold hrankR; rw [if_neg (by simpa using h20), if_neg (by rw [← her]; exact h0), her]
    rw [e1]
    have d2 : (er == 0) = false := by simpa using h0
    have d3 : (er != 0) = true := by simpa using h0
    clear hs hr e1 her h0
    go_enter Try.func37, Try.ntmps37
    go_wp2_with (first | (go_at_call 40; refine HC.out.mono ?_; rintro _ w1 ⟨rfl, hb1⟩) | fail)
    go_wp2
    exact bodyPost_ret (v := .tuple #[.slice none 0 0, .int .i64 er]) (by simp [results, Try.results37, go_sem]) rfl (retSlE_nil hb1)
  subst h0
  have e1 : hrankR (ms.map Md.m) l = (rkL (ms.map Md.m) l, 0) := by unfold hrankR; rw [if_neg (by simpa using h20), if_pos her.symm]
  rw [e1]
  have HOK := Lib.hid (regs_all her.symm)
  obtain ⟨n, hn⟩ : ∃ n, n = ms.length := ⟨_, rfl⟩
  have HCF0 : Hid (∀ k, (hk : k < ms.length) → ∀ W, Below w.heap.size w W → Calls Try.prog 41 #[.agg #[.int .i64 ms[k].kind, .slice ms[k].a ms[k].rows.length ms[k].c, .int .i64 ms[k].after], .slice lA l.length lc] W (RetS (rkP (ms.map Md.m) l k) (rkQ (ms.map Md.m) l k) (l.length + 1) W)) := Lib.hid fun k hk W hW => by
    have h1 := HOK.out ms[k].m (List.mem_map_of_mem (List.getElem_mem hk))
    have h2 := scOf_any ms[k] l lA lc W (((hs.each _ (List.getElem_mem hk)).below hW).more hW.size) ((hr.below hW).more hW.size) h1.1 h1.2.1 h1.2.2
    have e1 : rkP (ms.map Md.m) l k = ovN ms[k].m l l.length := by unfold rkP; rw [List.getElem?_map, List.getElem?_eq_getElem hk]; rfl
    have e2 : rkQ (ms.map Md.m) l k = unN ms[k].m l l.length := by unfold rkQ; rw [List.getElem?_map, List.getElem?_eq_getElem hk]; rfl
    rw [e1, e2]; exact h2
  have HL4 : 0 < ms.length → l.length ≤ 400 := fun hp => (HOK.out ms[0].m (List.mem_map_of_mem (List.getElem_mem hp))).2.2
  have HTP := Lib.hid hs.top
  have HRL : Hid ((rkL (ms.map Md.m) l).length = ms.length) := Lib.hid (by rw [rkL_len]; simp)
  have HRV : Hid (rkL (ms.map Md.m) l = (rankL (fun o x => decide (rkV (ms.map Md.m) l x o < 0)) ms.length).map fun (x : Nat) => (x : Int)) := Lib.hid (by unfold rkL rkC; rw [List.length_map])
  obtain ⟨RL, hRL⟩ : ∃ q, q = rkL (ms.map Md.m) l := ⟨_, rfl⟩
  rw [← hRL] at HRL HRV ⊢
  have HV : Hid (∀ x o, cmpN (rkP (ms.map Md.m) l o * rkQ (ms.map Md.m) l x) (rkP (ms.map Md.m) l x * rkQ (ms.map Md.m) l o) = rkV (ms.map Md.m) l x o) := Lib.hid fun x o => rfl
  obtain ⟨P, hP⟩ : ∃ q, q = rkP (ms.map Md.m) l := ⟨_, rfl⟩
  obtain ⟨Q, hQ⟩ : ∃ q, q = rkQ (ms.map Md.m) l := ⟨_, rfl⟩
  obtain ⟨cv, hcv⟩ : ∃ q, q = rkV (ms.map Md.m) l := ⟨_, rfl⟩
  rw [← hP, ← hQ] at HCF0 HV
  rw [← hcv] at HRV HV
  clear hP hQ hcv hRL e1 her hs hr HOK hn
  go_enter Try.func37, Try.ntmps37
  go_wp2_with (first | (go_at_call 40; refine HC.out.mono ?_; rintro _ w1 ⟨rfl, hb1⟩) | fail)
  obtain ⟨b7, hb7⟩ : ∃ b, b = w1.heap.size := ⟨_, rfl⟩
  rw [← hb7]
  refine gen_w (fun W => RkI w b7 (.slice none 0 0) (.slice none 0 0) (.slice none 0 0) 0 0 [] P Q (l.length + 1) W) ⟨World.ownsRow_nil _ _ _ _, World.ownsRow_nil _ _ _ _, Blk.at_ hb7, by rw [hb7]; exact hb1.size, fun i hi => by simp at hi, fun i hi => by simp at hi, hb1.alloc hb1.size _⟩ ?_
  intro V hi
  have HI := Lib.hid hi
  clear hi hb7 hb1
  go_wp2_with fail
  go_loopw [8, 22] (fun ov iv W => ∃ (scs : List Sco) (sv o8 : Value), scs.length ≤ ms.length ∧ o8 = ov ∧ iv = .int .i64 (scs.length : Int) ∧ Hid (RkI w b7 sv sv o8 scs.length scs.length scs P Q (l.length + 1) W)) (fun _ iv _ => ms.length - (intOf iv).toNat)
  case atStart => exact ⟨[], _, _, by simp, rfl, rfl, HI⟩
  case round =>
    clear HI
    obtain ⟨scs, sv, ov, hsl, rfl, rfl, HI⟩ := hrel
    by_cases hlt : scs.length < ms.length
    · obtain ⟨ab, ao, rfl, hblk, hcell⟩ := (HTP.out.below HI.out.hw).at_ (k := scs.length) (fun _ => rfl) hlt
      have c0 := hcell 0 _ rfl
      have c1 := hcell 1 _ rfl
      have c2 := hcell 2 _ rfl
      simp only [Nat.add_zero] at c0 c1 c2
      have HCF := Lib.hid (HCF0.out scs.length hlt)
      obtain ⟨x, hx⟩ : ∃ x, x = ms[scs.length] := ⟨_, rfl⟩
      rw [← hx] at HCF c0 c1 c2
      have k0 : (0 : Int) ≤ (scs.length : Int) := by omega
      have k1 : (scs.length : Int) < (ms.length : Int) := by omega
      have hz := HI.out.hw.size
      have hbl : ab < wr.heap.size := by omega
      clear hx hcell HCF0
      go_upto_region 11 with fail
      refine gen_w (fun W => Hid (RkI w b7 sv sv ov scs.length scs.length scs P Q (l.length + 1) W) ∧ Hid (Blk W wr.heap.size #[.int .i64 x.kind, .slice x.a x.rows.length x.c, .int .i64 x.after] 25)) ⟨Lib.hid (HI.out.below (by (repeat (first | exact Below.refl _ _ | assumption | (refine Below.alloc ?_ (by first | omega | (simp; omega) | (simp; done)) _) | (refine Below.setCell ?_ (by first | omega | (simp; omega) | (simp; done)) _) | (refine Below.drew ?_) | (refine belowN ?_ _) | (refine Below.trans ?_ (Below.mono ‹Below _ _ _› (by first | omega | (simp; omega) | (simp; done)))))))), Lib.hid (Blk.at_ (by simp))⟩ ?_
      rintro V ⟨HI, HX⟩
      obtain ⟨bx, hbx⟩ : ∃ b, b = wr.heap.size := ⟨_, rfl⟩
      rw [← hbx] at HX ⊢
      clear hbx c0 c1 c2 hblk hbl hz
      have HSS : Hid (∀ W, Blk W b7 #[sv] 118 → Blk W bx #[.int .i64 x.kind, .slice x.a x.rows.length x.c, .int .i64 x.after] 25 → W.cell? ⟨b7, 0, none⟩ = some sv ∧ W.cell? ⟨bx, 0, none⟩ = some (.int .i64 x.kind) ∧ W.cell? ⟨bx, 1, none⟩ = some (.slice x.a x.rows.length x.c) ∧ W.cell? ⟨bx, 2, none⟩ = some (.int .i64 x.after)) := Lib.hid fun W g1 g2 => by
        have q := g1.cell 0
        have q0 := g2.cell 0; have q1 := g2.cell 1; have q2 := g2.cell 2
        simp at q q0 q1 q2
        exact ⟨q, q0, q1, q2⟩
      have HI := Lib.hid (HI.out.below ((Below.refl _ V).drew))
      have HX := Lib.hid (HX.out.below ((Below.refl _ V).drew) HX.out.lt)
      refine wp_region_noPanic ?_
      refine wp_region_T (S := fun W => W.cell? ⟨b7, 0, none⟩ = some sv ∧ W.cell? ⟨bx, 0, none⟩ = some (.int .i64 x.kind) ∧ W.cell? ⟨bx, 1, none⟩ = some (.slice x.a x.rows.length x.c) ∧ W.cell? ⟨bx, 2, none⟩ = some (.int .i64 x.after)) 10 (by kernel_rfl) (by kernel_rfl) (by kernel_rfl) (by kernel_rfl) (by decide) (HSS.out _ HI.out.k7 HX.out) (fun hHeld => ?_)
      generalize V.drew = U at HI HX hHeld ⊢
      refine WT.takeD (i := 0) (d := some 27) (v := ?vo0) rfl rfl (by decide) (by kernel_rfl) (by kernel_rfl) (fun _ _ _ h => h) (Or.inl ⟨by rfl, ?ho0⟩) (by assumption) ?ro0
      case ho0 => (intro w hSw; (try dsimp only at hSw); go_simp; (try with_reducible rfl))
      try simp only [Act.put, List.setIfInBounds_toArray, List.set_cons_zero, List.set_cons_succ]
      refine WT.takeD (i := 1) (d := some 28) (v := ?vo1) rfl rfl (by decide) (by kernel_rfl) (by kernel_rfl) (fun _ _ _ h => h) (Or.inl ⟨by rfl, ?ho1⟩) (by assumption) ?ro1
      case ho1 => (intro w hSw; (try dsimp only at hSw); go_simp; (try with_reducible rfl))
      try simp only [Act.put, List.setIfInBounds_toArray, List.set_cons_zero, List.set_cons_succ]
      refine WT.takeD (i := 2) (d := some 29) (v := ?vo2) rfl rfl (by decide) (by kernel_rfl) (by kernel_rfl) (fun _ _ _ h => h) (Or.inl ⟨by rfl, ?ho2⟩) (by assumption) ?ro2
      case ho2 => (intro w hSw; (try dsimp only at hSw); go_simp; (try with_reducible rfl))
      try simp only [Act.put, List.setIfInBounds_toArray, List.set_cons_zero, List.set_cons_succ]
      refine WT.takeD (i := 6) (d := some 33) (v := ?vo6) rfl rfl (by decide) (by kernel_rfl) (by kernel_rfl) (fun _ _ _ h => h) (Or.inl ⟨by rfl, ?ho6⟩) (by assumption) ?ro6
      case ho6 => (intro w hSw; (try dsimp only at hSw); go_simp; (try with_reducible rfl))
      try simp only [Act.put, List.setIfInBounds_toArray, List.set_cons_zero, List.set_cons_succ]
      refine WT.takeD (i := 7) (d := some 34) (v := ?vo7) rfl rfl (by decide) (by kernel_rfl) (by kernel_rfl) (fun _ _ _ h => h) (Or.inl ⟨by rfl, ?ho7⟩) (by assumption) ?ro7
      case ho7 => (intro w hSw; (try dsimp only at hSw); go_simp; (try with_reducible rfl))
      try simp only [Act.put, List.setIfInBounds_toArray, List.set_cons_zero, List.set_cons_succ]
      refine WT.two (i := 3) (j := 8) rfl rfl (by decide) (by decide) (by kernel_rfl) (fun K hK => ?_) (fun K hK => ?_)
      · go_simp
        refine (HCF.out _ HI.out.hw).mono ?_
        rintro _ w1 h9
        obtain ⟨F, fn_, fc, F2, fn2, fc2, rfl, hs9, hb9⟩ := RetS.two h9
        have hi9 := HI.out.news (Nat.le_refl _) ⟨F, fn_, fc, F2, fn2, fc2⟩ (Nat.le_refl _) hs9 hb9
        have gx9 := HX.out.below hb9 HX.out.lt
        have HI := Lib.hid hi9
        have HX := Lib.hid gx9
        try have H8 := Lib.hid (Blk.below H8.out hb9 (Blk.lt H8.out))
        clear h9 hs9
        refine hK.out _ _ (HSS.out _ hi9.k7 gx9) (fun hHeld => ?_)
        clear hK K hi9 gx9 hb9
        refine WT.two (i := 4) (j := 8) rfl rfl (by decide) (by decide) (by kernel_rfl) (fun K hK => ?_) (fun K hK => ?_)
        · go_simp
          refine gen_al (R := K) ?_
          intro V4 hbV hbl
          have hi9 := HI.out.below hbV
          have gx9 := HX.out.below hbV HX.out.lt
          have HI := Lib.hid hi9
          have HX := Lib.hid gx9
          try have H8 := Lib.hid (Blk.below H8.out hbV (Blk.lt H8.out))
          have H4 := Lib.hid hbl
          refine hK.out _ _ (HSS.out _ hi9.k7 gx9) (fun hHeld => ?_)
          clear hK K hi9 gx9 hbV hbl
          refine WT.two (i := 5) (j := 8) rfl rfl (by decide) (by decide) (by kernel_rfl) (fun K hK => ?_) (fun K hK => ?_)
          · refine step_append_lies _ (by rfl) _ _ _ (by rfl) w.heap.size 79 i1 (.agg #[.slice none 0 0, .slice none 0 0]) 2 48 uScL hi1 iy0 iy1 iy2 rfl (by omega) sv scs.length _ (by rfl) HI.out.os _ 1 1 [.slice F fn_ fc, .slice F2 fn2 fc2] (by rfl) (by rfl) (World.news_of_block (cs := #[.slice F fn_ fc, .slice F2 fn2 fc2]) (t := 79) (fr := (0, 0)) H4.out) (by simp [Value.oneCell']) (by omega) (by unfold maxLen; omega) (by omega) HI.out.hw.size _ rfl ?_
            intro g5 cap5 w5 hown5 hgrow hat hgl
            have gx9 := HX.out.grown hgrow (row_ne_blk HI.out.os HX.out (by decide))
            try have H8 := Lib.hid (Blk.grown H8.out hgrow (row_ne_blk HI.out.os H8.out (by decide)))
            have hi9 := HI.out.appX hgrow hown5 hat
            have HI := Lib.hid hi9
            have HX := Lib.hid gx9
            clear H4 hown5 hgrow hat hgl
            refine hK.out _ _ (HSS.out _ hi9.k7 gx9) (fun hHeld => ?_)
            clear hK K hi9 gx9
            refine WT.one (i := 8) rfl (by decide) (by kernel_rfl) (fun K hK => ?_)
            go_simp
            refine gen_al (R := K) ?_
            intro V8 hbV hbl
            have hi9 := HI.out.below hbV
            have gx9 := HX.out.below hbV HX.out.lt
            have HI := Lib.hid hi9
            have HX := Lib.hid gx9
            try have H4 := Lib.hid (Blk.below H4.out hbV (Blk.lt H4.out))
            have H8 := Lib.hid hbl
            refine hK.out _ _ (HSS.out _ hi9.k7 gx9) (fun hHeld => ?_)
            clear hK K hi9 gx9 hbV hbl
            refine WT.one (i := 9) rfl (by decide) (by kernel_rfl) (fun K hK => ?_)
            refine step_append_lies _ (by rfl) _ _ _ (by rfl) w.heap.size 3 i0' (.int .i64 0) 1 8 uInts hInf iz0 iz1 iz2 rfl (by omega) ov scs.length _ (by rfl) HI.out.oo _ 1 1 [.int .i64 (scs.length : Int)] (by rfl) (by rfl) (World.news_of_block (cs := #[.int .i64 (scs.length : Int)]) (t := 3) (fr := (0, 0)) H8.out) (by simp [Value.oneCell']) (by omega) (by unfold maxLen; omega) (by omega) HI.out.hw.size _ rfl ?_
            intro g7 cap7 w7 hown7 hgrow hat hgl
            have gx9 := HX.out.grown hgrow (row_ne_blk HI.out.oo HX.out (by decide))
            have hi9 := HI.out.appY hgrow hown7 hat
            have HI := Lib.hid hi9
            have HX := Lib.hid gx9
            clear H8 hown7 hgrow hat hgl
            refine hK.out _ _ (HSS.out _ hi9.k7 gx9) (fun hHeld => ?_)
            clear hK K hi9 gx9
            refine WT.last2 (n := 10) (m := 11) rfl rfl (by kernel_rfl) (by kernel_rfl) (by kernel_rfl) (fun K hK => ?_)
            have f7 := HI.out.k7.free 0
            go_simp
            refine hK.out _ _ (fun K2 hK2 => ?_)
            clear hK K
            go_simp
            refine hK2.out _ _ ?_
            clear hK2 K2
            refine NoPanic.normal ?_
            have HI := Lib.hid (HI.out.put (.slice (some ⟨g5, 0, none⟩) (scs.length + 1) cap5))
            go_wp2_with fail
            refine ⟨⟨scs ++ [⟨F, fn_, fc, F2, fn2, fc2⟩], _, _, by simp; omega, rfl, by simp, by simpa using HI⟩, ?_⟩
            simp [intOf]; omega
          · go_simp
            refine gen_al (R := K) ?_
            intro V8 hbV hbl
            have hi9 := HI.out.below hbV
            have gx9 := HX.out.below hbV HX.out.lt
            have HI := Lib.hid hi9
            have HX := Lib.hid gx9
            try have H4 := Lib.hid (Blk.below H4.out hbV (Blk.lt H4.out))
            have H8 := Lib.hid hbl
            refine hK.out _ _ (HSS.out _ hi9.k7 gx9) (fun hHeld => ?_)
            clear hK K hi9 gx9 hbV hbl
            refine WT.one (i := 5) rfl (by decide) (by kernel_rfl) (fun K hK => ?_)
            refine step_append_lies _ (by rfl) _ _ _ (by rfl) w.heap.size 79 i1 (.agg #[.slice none 0 0, .slice none 0 0]) 2 48 uScL hi1 iy0 iy1 iy2 rfl (by omega) sv scs.length _ (by rfl) HI.out.os _ 1 1 [.slice F fn_ fc, .slice F2 fn2 fc2] (by rfl) (by rfl) (World.news_of_block (cs := #[.slice F fn_ fc, .slice F2 fn2 fc2]) (t := 79) (fr := (0, 0)) H4.out) (by simp [Value.oneCell']) (by omega) (by unfold maxLen; omega) (by omega) HI.out.hw.size _ rfl ?_
            intro g5 cap5 w5 hown5 hgrow hat hgl
            have gx9 := HX.out.grown hgrow (row_ne_blk HI.out.os HX.out (by decide))
            try have H8 := Lib.hid (Blk.grown H8.out hgrow (row_ne_blk HI.out.os H8.out (by decide)))
            have hi9 := HI.out.appX hgrow hown5 hat
            have HI := Lib.hid hi9
            have HX := Lib.hid gx9
            clear H4 hown5 hgrow hat hgl
            refine hK.out _ _ (HSS.out _ hi9.k7 gx9) (fun hHeld => ?_)
            clear hK K hi9 gx9
            refine WT.one (i := 9) rfl (by decide) (by kernel_rfl) (fun K hK => ?_)
            refine step_append_lies _ (by rfl) _ _ _ (by rfl) w.heap.size 3 i0' (.int .i64 0) 1 8 uInts hInf iz0 iz1 iz2 rfl (by omega) ov scs.length _ (by rfl) HI.out.oo _ 1 1 [.int .i64 (scs.length : Int)] (by rfl) (by rfl) (World.news_of_block (cs := #[.int .i64 (scs.length : Int)]) (t := 3) (fr := (0, 0)) H8.out) (by simp [Value.oneCell']) (by omega) (by unfold maxLen; omega) (by omega) HI.out.hw.size _ rfl ?_
            intro g7 cap7 w7 hown7 hgrow hat hgl
            have gx9 := HX.out.grown hgrow (row_ne_blk HI.out.oo HX.out (by decide))
            have hi9 := HI.out.appY hgrow hown7 hat
            have HI := Lib.hid hi9
            have HX := Lib.hid gx9
            clear H8 hown7 hgrow hat hgl
            refine hK.out _ _ (HSS.out _ hi9.k7 gx9) (fun hHeld => ?_)
            clear hK K hi9 gx9
            refine WT.last2 (n := 10) (m := 11) rfl rfl (by kernel_rfl) (by kernel_rfl) (by kernel_rfl) (fun K hK => ?_)
            have f7 := HI.out.k7.free 0
            go_simp
            refine hK.out _ _ (fun K2 hK2 => ?_)
            clear hK K
            go_simp
            refine hK2.out _ _ ?_
            clear hK2 K2
            refine NoPanic.normal ?_
            have HI := Lib.hid (HI.out.put (.slice (some ⟨g5, 0, none⟩) (scs.length + 1) cap5))
            go_wp2_with fail
            refine ⟨⟨scs ++ [⟨F, fn_, fc, F2, fn2, fc2⟩], _, _, by simp; omega, rfl, by simp, by simpa using HI⟩, ?_⟩
            simp [intOf]; omega
        · go_simp
          refine gen_al (R := K) ?_
          intro V8 hbV hbl
          have hi9 := HI.out.below hbV
          have gx9 := HX.out.below hbV HX.out.lt
          have HI := Lib.hid hi9
          have HX := Lib.hid gx9
          try have H4 := Lib.hid (Blk.below H4.out hbV (Blk.lt H4.out))
          have H8 := Lib.hid hbl
          refine hK.out _ _ (HSS.out _ hi9.k7 gx9) (fun hHeld => ?_)
          clear hK K hi9 gx9 hbV hbl
          refine WT.one (i := 4) rfl (by decide) (by kernel_rfl) (fun K hK => ?_)
          go_simp
          refine gen_al (R := K) ?_
          intro V4 hbV hbl
          have hi9 := HI.out.below hbV
          have gx9 := HX.out.below hbV HX.out.lt
          have HI := Lib.hid hi9
          have HX := Lib.hid gx9
          try have H8 := Lib.hid (Blk.below H8.out hbV (Blk.lt H8.out))
          have H4 := Lib.hid hbl
          refine hK.out _ _ (HSS.out _ hi9.k7 gx9) (fun hHeld => ?_)
          clear hK K hi9 gx9 hbV hbl
          refine WT.one (i := 5) rfl (by decide) (by kernel_rfl) (fun K hK => ?_)
          refine step_append_lies _ (by rfl) _ _ _ (by rfl) w.heap.size 79 i1 (.agg #[.slice none 0 0, .slice none 0 0]) 2 48 uScL hi1 iy0 iy1 iy2 rfl (by omega) sv scs.length _ (by rfl) HI.out.os _ 1 1 [.slice F fn_ fc, .slice F2 fn2 fc2] (by rfl) (by rfl) (World.news_of_block (cs := #[.slice F fn_ fc, .slice F2 fn2 fc2]) (t := 79) (fr := (0, 0)) H4.out) (by simp [Value.oneCell']) (by omega) (by unfold maxLen; omega) (by omega) HI.out.hw.size _ rfl ?_
          intro g5 cap5 w5 hown5 hgrow hat hgl
          have gx9 := HX.out.grown hgrow (row_ne_blk HI.out.os HX.out (by decide))
          try have H8 := Lib.hid (Blk.grown H8.out hgrow (row_ne_blk HI.out.os H8.out (by decide)))
          have hi9 := HI.out.appX hgrow hown5 hat
          have HI := Lib.hid hi9
          have HX := Lib.hid gx9
          clear H4 hown5 hgrow hat hgl
          refine hK.out _ _ (HSS.out _ hi9.k7 gx9) (fun hHeld => ?_)
          clear hK K hi9 gx9
          refine WT.one (i := 9) rfl (by decide) (by kernel_rfl) (fun K hK => ?_)
          refine step_append_lies _ (by rfl) _ _ _ (by rfl) w.heap.size 3 i0' (.int .i64 0) 1 8 uInts hInf iz0 iz1 iz2 rfl (by omega) ov scs.length _ (by rfl) HI.out.oo _ 1 1 [.int .i64 (scs.length : Int)] (by rfl) (by rfl) (World.news_of_block (cs := #[.int .i64 (scs.length : Int)]) (t := 3) (fr := (0, 0)) H8.out) (by simp [Value.oneCell']) (by omega) (by unfold maxLen; omega) (by omega) HI.out.hw.size _ rfl ?_
          intro g7 cap7 w7 hown7 hgrow hat hgl
          have gx9 := HX.out.grown hgrow (row_ne_blk HI.out.oo HX.out (by decide))
          have hi9 := HI.out.appY hgrow hown7 hat
          have HI := Lib.hid hi9
          have HX := Lib.hid gx9
          clear H8 hown7 hgrow hat hgl
          refine hK.out _ _ (HSS.out _ hi9.k7 gx9) (fun hHeld => ?_)
          clear hK K hi9 gx9
          refine WT.last2 (n := 10) (m := 11) rfl rfl (by kernel_rfl) (by kernel_rfl) (by kernel_rfl) (fun K hK => ?_)
          have f7 := HI.out.k7.free 0
          go_simp
          refine hK.out _ _ (fun K2 hK2 => ?_)
          clear hK K
          go_simp
          refine hK2.out _ _ ?_
          clear hK2 K2
          refine NoPanic.normal ?_
          have HI := Lib.hid (HI.out.put (.slice (some ⟨g5, 0, none⟩) (scs.length + 1) cap5))
          go_wp2_with fail
          refine ⟨⟨scs ++ [⟨F, fn_, fc, F2, fn2, fc2⟩], _, _, by simp; omega, rfl, by simp, by simpa using HI⟩, ?_⟩
          simp [intOf]; omega
      · go_simp
        refine gen_al (R := K) ?_
        intro V8 hbV hbl
        have hi9 := HI.out.below hbV
        have gx9 := HX.out.below hbV HX.out.lt
        have HI := Lib.hid hi9
        have HX := Lib.hid gx9
        try have H4 := Lib.hid (Blk.below H4.out hbV (Blk.lt H4.out))
        have H8 := Lib.hid hbl
        refine hK.out _ _ (HSS.out _ hi9.k7 gx9) (fun hHeld => ?_)
        clear hK K hi9 gx9 hbV hbl
        refine WT.one (i := 3) rfl (by decide) (by kernel_rfl) (fun K hK => ?_)
        go_simp
        refine (HCF.out _ HI.out.hw).mono ?_
        rintro _ w1 h9
        obtain ⟨F, fn_, fc, F2, fn2, fc2, rfl, hs9, hb9⟩ := RetS.two h9
        have hi9 := HI.out.news (Nat.le_refl _) ⟨F, fn_, fc, F2, fn2, fc2⟩ (Nat.le_refl _) hs9 hb9
        have gx9 := HX.out.below hb9 HX.out.lt
        have HI := Lib.hid hi9
        have HX := Lib.hid gx9
        try have H8 := Lib.hid (Blk.below H8.out hb9 (Blk.lt H8.out))
        clear h9 hs9
        refine hK.out _ _ (HSS.out _ hi9.k7 gx9) (fun hHeld => ?_)
        clear hK K hi9 gx9 hb9
        refine WT.one (i := 4) rfl (by decide) (by kernel_rfl) (fun K hK => ?_)
        go_simp
        refine gen_al (R := K) ?_
        intro V4 hbV hbl
        have hi9 := HI.out.below hbV
        have gx9 := HX.out.below hbV HX.out.lt
        have HI := Lib.hid hi9
        have HX := Lib.hid gx9
        try have H8 := Lib.hid (Blk.below H8.out hbV (Blk.lt H8.out))
        have H4 := Lib.hid hbl
        refine hK.out _ _ (HSS.out _ hi9.k7 gx9) (fun hHeld => ?_)
        clear hK K hi9 gx9 hbV hbl
        refine WT.one (i := 5) rfl (by decide) (by kernel_rfl) (fun K hK => ?_)
        refine step_append_lies _ (by rfl) _ _ _ (by rfl) w.heap.size 79 i1 (.agg #[.slice none 0 0, .slice none 0 0]) 2 48 uScL hi1 iy0 iy1 iy2 rfl (by omega) sv scs.length _ (by rfl) HI.out.os _ 1 1 [.slice F fn_ fc, .slice F2 fn2 fc2] (by rfl) (by rfl) (World.news_of_block (cs := #[.slice F fn_ fc, .slice F2 fn2 fc2]) (t := 79) (fr := (0, 0)) H4.out) (by simp [Value.oneCell']) (by omega) (by unfold maxLen; omega) (by omega) HI.out.hw.size _ rfl ?_
        intro g5 cap5 w5 hown5 hgrow hat hgl
        have gx9 := HX.out.grown hgrow (row_ne_blk HI.out.os HX.out (by decide))
        try have H8 := Lib.hid (Blk.grown H8.out hgrow (row_ne_blk HI.out.os H8.out (by decide)))
        have hi9 := HI.out.appX hgrow hown5 hat
        have HI := Lib.hid hi9
        have HX := Lib.hid gx9
        clear H4 hown5 hgrow hat hgl
        refine hK.out _ _ (HSS.out _ hi9.k7 gx9) (fun hHeld => ?_)
        clear hK K hi9 gx9
        refine WT.one (i := 9) rfl (by decide) (by kernel_rfl) (fun K hK => ?_)
        refine step_append_lies _ (by rfl) _ _ _ (by rfl) w.heap.size 3 i0' (.int .i64 0) 1 8 uInts hInf iz0 iz1 iz2 rfl (by omega) ov scs.length _ (by rfl) HI.out.oo _ 1 1 [.int .i64 (scs.length : Int)] (by rfl) (by rfl) (World.news_of_block (cs := #[.int .i64 (scs.length : Int)]) (t := 3) (fr := (0, 0)) H8.out) (by simp [Value.oneCell']) (by omega) (by unfold maxLen; omega) (by omega) HI.out.hw.size _ rfl ?_
        intro g7 cap7 w7 hown7 hgrow hat hgl
        have gx9 := HX.out.grown hgrow (row_ne_blk HI.out.oo HX.out (by decide))
        have hi9 := HI.out.appY hgrow hown7 hat
        have HI := Lib.hid hi9
        have HX := Lib.hid gx9
        clear H8 hown7 hgrow hat hgl
        refine hK.out _ _ (HSS.out _ hi9.k7 gx9) (fun hHeld => ?_)
        clear hK K hi9 gx9
        refine WT.last2 (n := 10) (m := 11) rfl rfl (by kernel_rfl) (by kernel_rfl) (by kernel_rfl) (fun K hK => ?_)
        have f7 := HI.out.k7.free 0
        go_simp
        refine hK.out _ _ (fun K2 hK2 => ?_)
        clear hK K
        go_simp
        refine hK2.out _ _ ?_
        clear hK2 K2
        refine NoPanic.normal ?_
        have HI := Lib.hid (HI.out.put (.slice (some ⟨g5, 0, none⟩) (scs.length + 1) cap5))
        go_wp2_with fail
        refine ⟨⟨scs ++ [⟨F, fn_, fc, F2, fn2, fc2⟩], _, _, by simp; omega, rfl, by simp, by simpa using HI⟩, ?_⟩
        simp [intOf]; omega
    · have HSL : Hid (scs.length = ms.length) := Lib.hid (by omega)
      have dl : decide ((scs.length : Int) < (ms.length : Int)) = false := decide_eq_false (by omega)
      have dl2 : decide (scs.length < ms.length) = false := decide_eq_false hlt
      have f7 := HI.out.k7.lt
      clear HCF0 HTP
      rcases Nat.eq_zero_or_pos scs.length with hz0 | hpos
      · have HE : RL = [] := List.eq_nil_of_length_eq_zero (by rw [HRL.out, ← HSL.out, hz0])
        obtain ⟨A0, c0, e0⟩ := ownSl HI.out.oo
        have HW := Lib.hid HI.out.hw
        rw [hz0] at e0
        have HAC : Hid (A0 = none → c0 = 0) := Lib.hid fun ha => by
          rcases HI.out.oo.2 with ⟨h1, h2⟩ | ⟨g, cap, cur, h1, _⟩
          · rw [e0] at h1; cases h1; rfl
          · rw [e0, ha] at h1; cases h1
        subst e0
        have HS := Lib.hid (fun F W => sort_triv A0 c0 F W)
        clear HI hz0 hsl hlt HSL HRL
        subst HE
        go_wp2_with (first | (go_at_call 72; refine (HS.out _ _).mono ?_; rintro _ w9 ⟨rfl, rfl⟩) | fail)
        go_wp2
        exact bodyPost_ret (v := .tuple #[.slice A0 0 c0, .int .i64 0]) (by simp [results, Try.results37, go_sem]) rfl ⟨A0, c0, rfl, ⟨by simp [flat], fun h => by simp at h⟩, HAC.out, HW.out⟩
      · have hl4 := HL4 (by omega)
        obtain ⟨As, cs, g, cap, rest, rfl, rfl, hcap, hbg, hJ, hO⟩ := HI.out.done hpos
        have HW := Lib.hid HI.out.hw
        have HF : ∀ x o : Nat, x < scs.length → o < scs.length → ∀ W, RkS b7 As cs scs P Q (l.length + 1) g W → Calls Try.prog 73 (#[.int .i64 (x : Int), .int .i64 (o : Int)] ++ #[.pointer (some ⟨b7, 0, none⟩)]) W fun e W' => e = .returned (.int .i64 (cv x o)) ∧ Below W.heap.size W W' := fun x o hx ho W hW => by
          have := rank1_any (by omega) x o hx ho W hW
          rw [HV.out] at this; exact this
        have HS := Lib.hid (sortr_any 73 #[.pointer (some ⟨b7, 0, none⟩)] ent_rank1 scs.length g cap rest cv (RkS b7 As cs scs P Q (l.length + 1) g) hpos (by omega) hcap (fun W W' h hb => h.below hb) (fun W j v h => h.put j v) HF w.heap.size wr hbg HW.out.size hJ hO)
        clear HI hsl hlt HF hJ hO hl4
        go_wp2_with (first | (go_at_call 72; refine HS.out.mono ?_; rintro _ w9 ⟨rfl, h1, h2, h3⟩) | fail)
        have HO := Lib.hid h2; have HB := Lib.hid h3
        clear h1 h2 h3 HS
        go_wp2
        refine bodyPost_ret (v := .tuple #[.slice (some ⟨g, 0, none⟩) scs.length cap, .int .i64 0]) (by simp [results, Try.results37, go_sem]) rfl ⟨some ⟨g, 0, none⟩, cap, by rw [HRL.out, HSL.out], ?_, fun h => (by cases h), HW.out.trans HB.out⟩
        have := HO.out.sl
        rw [HRV.out, ← HSL.out]; exact this
end Go.Proofs.Ytiikkcifdhcejaa

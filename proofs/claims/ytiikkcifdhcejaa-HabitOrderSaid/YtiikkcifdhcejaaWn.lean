/- habit: Chance. -/
import Derived.Test.YtiikkcifdhcejaaZ15Wk
import Derived.Test.YtiikkcifdhcejaaZ16Pr
import Derived.Test.YtiikkcifdhcejaaZ18Hf
import Derived.Test.YtiikkcifdhcejaaPj
namespace Go.Proofs.Ytiikkcifdhcejaa
open Go.RowKit
attribute [local go_sem] Oper.semAt_some

theorem regs_one (m : HMd) (l : List Int) : regsE [m] l = regE m l := by
  unfold regsE regE modsB inE limI outs0
  simp only [List.all_cons, List.all_nil, Bool.and_true, decide_true]
  cases hm : modB m with
  | false => simp
  | true =>
    simp only [if_true, Bool.true_eq_false, if_false]
    have hk := (modB_iff.1 hm).n32
    have e : l.any (outB (m.outs : Int)) = !(l.all fun x => decide (0 ≤ x ∧ x < (m.outs : Int))) := by
      induction l with
      | nil => rfl
      | cons x l ih =>
        simp only [List.any_cons, List.all_cons, ih, Bool.not_and]
        congr 1
        simp only [outB]
        rw [← decide_not]
        congr 1
        rw [eq_iff_iff]
        omega
    have h3 : (m.outs : Int) < 1000000000000000 := by omega
    rw [e]
    cases (l.all fun x => decide (0 ≤ x ∧ x < (m.outs : Int))) <;> simp [h3]
theorem shL_drop {m : HMd} {l : List Int} {k : Nat} (hk : k < l.length) : (shL m l).drop k = wtI m l k :: (shL m l).drop (k + 1) := by
  unfold shL
  rw [List.drop_eq_getElem_cons (by simpa using hk)]
  simp
theorem shL_end (m : HMd) (l : List Int) : (shL m l).drop l.length = [] := by
  unfold shL
  apply List.drop_eq_nil_of_le
  simp
set_option maxRecDepth 100000 in
set_option maxHeartbeats 4000000 in
theorem chanF_any (x : Md) (l : List Int) (lA : Option Addr) (lc : Nat) (w : World) (hlen : l.length ≤ 1000000) (hx : x.reads w w.heap.size) (hl : Sl intCell 1 w w.heap.size lA l) :
    Calls Try.prog 24 #[.agg #[.int .i64 x.kind, .slice x.a x.rows.length x.c, .int .i64 x.after], .slice lA l.length lc] w (RetC (chanR x.m l) w) := by
  have HX := Lib.hid hx; have HL := Lib.hid hl
  obtain ⟨er, her⟩ : ∃ e, e = regsE [x.m] l := ⟨_, rfl⟩
  have HC : Hid (∀ W, Below w.heap.size w W → ∀ b, Blk W b #[.int .i64 x.kind, .slice x.a x.rows.length x.c, .int .i64 x.after] 25 → Calls Try.prog 40 #[.slice lA l.length lc, .slice (some ⟨b, 0, none⟩) 1 1] W fun e w' => e = .returned (.int .i64 er) ∧ Below W.heap.size W w') := Lib.hid fun W hW b hb => by
    rw [her]; exact checkR_any lA lc l (some ⟨b, 0, none⟩) 1 [x] W hlen (by simp) ((hl.below hW).more hW.size) (mds_one hb ((hx.below hW).more hW.size))
  have HS := Lib.hid (fun W (hW : Below w.heap.size w W) => shares_any x l lA lc w.heap.size W hW.size (hx.below hW) (hl.below hW))
  have HR := Lib.hid her
  have HRE := Lib.hid (regs_one x.m l)
  clear hx hl her
  refine calls_marks Try.func24 rfl ?_
  simp only [Try.ntmps24, List.size_toArray, List.length_cons, List.length_nil, Nat.reduceAdd, Nat.reduceSub, Array.replicate_succ, Array.replicate_zero, List.push_toArray, List.append_toArray, List.nil_append, List.cons_append]
  go_upto_region 1 with fail
  obtain ⟨b2, hb2⟩ : ∃ b, b = w.heap.size := ⟨_, rfl⟩
  rw [← hb2]
  refine gen_w (fun W => W.heap.size = b2 + 3 ∧ Below w.heap.size w W ∧ Blk W b2 #[.int .i64 x.kind, .slice x.a x.rows.length x.c, .int .i64 x.after] 25 ∧ Blk W (b2 + 1) #[.int .i64 0, .int .i64 0] 27 ∧ Blk W (b2 + 1 + 1) #[.int .i64 0] 33) ⟨by simp [hb2], by (repeat (first | exact Below.refl _ _ | assumption | (refine Below.alloc ?_ (by first | omega | (simp; omega) | (simp; done)) _) | (refine Below.setCell ?_ (by first | omega | (simp; omega) | (simp; done)) _) | (refine Below.drew ?_) | (refine belowN ?_ _) | (refine Below.trans ?_ (Below.mono ‹Below _ _ _› (by first | omega | (simp; omega) | (simp; done)))))), ((Blk.at_ hb2).alloc _).alloc _, (Blk.at_ (by simp [hb2])).alloc _, Blk.at_ (by simp [hb2])⟩ ?_
  rintro V ⟨hVz, hV, g1, g2, g3⟩
  have hwb : w.heap.size ≤ b2 := by omega
  have d0 := g1.cell 0; have d1 := g1.cell 1; have d2 := g1.cell 2
  simp at d0 d1 d2
  have hvl : b2 + 1 + 1 < V.heap.size := by omega
  clear hb2 hVz
  by_cases h0 : er = 0
  · subst h0
    have hz := regs_zero HR.out.symm
    have hmod := (hz.1 x.m (by simp)).1
    have hreg := (hz.1 x.m (by simp)).2.2
    obtain ⟨r0, t, hx0⟩ : ∃ r0 t, x.rows = r0 :: t := by
      obtain ⟨r, t, e⟩ := hmod.rows0
      cases hq : x.rows with
      | nil => simp [Md.m, hq] at e
      | cons a b => exact ⟨a, b, rfl⟩
    have HX0 := Lib.hid hx0
    clear hx0
    obtain ⟨⟨rn, rd, re⟩, hres⟩ : ∃ q : Int × Int × Int, q = chGo (shL x.m l) ⟨1, 1⟩ := ⟨_, rfl⟩
    have HEX : Hid (chanR x.m l = (rn, rd, re)) := (by show _ = _; unfold chanR; rw [if_pos (by rw [← HRE.out]; exact HR.out.symm), ← hres] : _)
    have HRS := Lib.hid hres
    have HBD := Lib.hid (fun k (hk : k < l.length) => wtI_bd hmod hreg hk)
    go_wp2_with (first | (go_at_call 40; refine (HC.out _ (by (repeat (first | exact Below.refl _ _ | assumption | (refine Below.alloc ?_ (by first | omega | (simp; omega) | (simp; done)) _) | (refine Below.setCell ?_ (by first | omega | (simp; omega) | (simp; done)) _) | (refine Below.drew ?_) | (refine belowN ?_ _) | (refine Below.trans ?_ (Below.mono ‹Below _ _ _› (by first | omega | (simp; omega) | (simp; done))))))) _ (Blk.new V _ _)).mono ?_; rintro _ w1 ⟨rfl, hb1⟩; refine Hid.out ?_) | fail)
    have hb1V : Below V.heap.size V w1 := ((Below.refl _ V).alloc (Nat.le_refl _) _).trans (hb1.mono (by simp))
    have g1 := g1.below hb1V (by omega)
    have g2 := g2.below hb1V (by omega)
    have g3 := g3.below hb1V (by omega)
    have hV1 := bl2 hV hb1V
    have d0 := g1.cell 0; have d1 := g1.cell 1; have d2 := g1.cell 2
    simp at d0 d1 d2
    have hz1 := hb1V.size
    clear hb1 hb1V hres
    refine Lib.hid ?_
    go_upto_region 5 with fail
    obtain ⟨b7, hb7⟩ : ∃ b, b = w1.heap.size := ⟨_, rfl⟩
    have h27 : b2 + 1 + 1 < b7 := by omega
    rw [← hb7]
    refine gen_w (fun W => b7 < W.heap.size ∧ Below w.heap.size w W ∧ Blk W b2 #[.int .i64 x.kind, .slice x.a x.rows.length x.c, .int .i64 x.after] 25 ∧ Blk W (b2 + 1) #[.int .i64 0, .int .i64 0] 27 ∧ Blk W (b2 + 1 + 1) #[.int .i64 0] 33 ∧ Blk W b7 #[.int .i64 1, .int .i64 1] 27) ⟨by simp [hb7], hV1.alloc (by omega) _, g1.alloc _, g2.alloc _, g3.alloc _, Blk.at_ hb7⟩ ?_
    clear hb7 g1 g2 g3 hV1 hV d0 d1 d2 hz1 hvl
    rintro V2 ⟨hv7, hV2, g1, g2, g3, g7⟩
    have d0 := g1.cell 0; have d1 := g1.cell 1; have d2 := g1.cell 2
    simp at d0 d1 d2
    go_wp2_with (first | (go_at_call 53; refine (HS.out _ hV2).mono ?_; rintro _ w2 ⟨rfl, hsh, hb2', hsz⟩; refine Hid.out ?_) | fail)
    obtain ⟨B, hB⟩ : ∃ B, B = V2.heap.size := ⟨_, rfl⟩
    rw [← hB] at hsh hsz ⊢
    have hit := shI_iter x r0 t HX0.out hmod l hreg hlen lA lc B (B + 1) w.heap.size
    have g2 := g2.below hb2' (by omega)
    have g3 := g3.below hb2' (by omega)
    have g7 := g7.below hb2' (by omega)
    have hV2 := bl2 hV2 hb2'
    have hbB : b7 < B := by omega
    have hBz : w2.heap.size = B + 2 := hsz
    have HSH := Lib.hid hsh; have HV2 := Lib.hid hV2; have HIT := Lib.hid hit; have HG2 := Lib.hid g2; have HG3 := Lib.hid g3; have HBZ := Lib.hid hBz; have HG7 := Lib.hid g7
    clear g1 d0 d1 d2 hb2' hsz hsh hB hz hmod hreg hit g2 g3 g7 hV2 hBz hv7
    refine Lib.hid ?_
    go_wp2_with fail
    have hBz := HBZ.out
    refine wp_rangeBP (lb := #[.pointer (some ⟨B, 0, none⟩), .pointer (some ⟨B + 1, 0, none⟩)]) rfl ent_shI HIT.out [] 9 (fun xs => match xs.getD 1 undef with | .agg cs => cs | _ => #[]) 87
      (fun s k W => Below w.heap.size w W ∧ Blk W (b2 + 1) #[.int .i64 0, .int .i64 0] 27 ∧ Blk W (b2 + 1 + 1) #[.int .i64 0] 33 ∧ ∃ c : Ch, chGo ((shL x.m l).drop k) c = (rn, rd, re) ∧ Blk W b7 #[.int .i64 c.n, .int .i64 c.d] 27)
      (fun c W => c = .ret ∧ Below w.heap.size w W ∧ Blk W (b2 + 1) #[.int .i64 rn, .int .i64 rd] 27 ∧ Blk W (b2 + 1 + 1) #[.int .i64 re] 33)
      (fun z k hz => (StabP.low (by omega) _ (Nat.le_refl _)).and ((StabP.blk _ (fun h => by have := hz _ h; omega) _ _ _).and ((StabP.blk _ (fun h => by have := hz _ h; omega) _ _ _).and (StabP.ex fun c => (StabP.pure _).and (StabP.blk _ (fun h => by have := hz _ h; omega) _ _ _)))))
      (fun z z' k V V' h hb _ => by obtain ⟨h1, h2, h3, c, h4, h5⟩ := h; exact ⟨bl2 h1 hb, h2.below hb h2.lt, h3.below hb h3.lt, c, h4, h5.below hb h5.lt⟩)
      (fun c => (Stab.pure _).and ((Stab.low (by omega) _ (Nat.le_refl _)).and ((Stab.blk _ _ _ _).and (Stab.blk _ _ _ _))))
      (fun z W b o' hz h1 h2 hd => hd.putObj _ (by omega) (fun e => by have := hz z.1 (.inl rfl); omega) (fun e => by have := hz z.2.1 (.inr rfl); omega) (by omega) (by omega))
      (fun z W W' h hb => h.below hb) ?hE ?hD0 ?h0 ?hps ?hassign ?hbody ?hdone ?hstop
    case hE => exact fun k xs => Stab.pure (xs = #[.int .i64 (k : Int), .agg #[.int .i64 (wtI x.m l k).1, .int .i64 (wtI x.m l k).2]])
    case hD0 => exact fun W hb => ⟨by have := hb.size; omega, HSH.out.keep (hb.mono (by omega)) (hb.block _ (by omega)) (hb.block _ (by omega))⟩
    case h0 => exact fun z W hz hb => ⟨bl2 HV2.out hb, HG2.out.below hb (by omega), HG3.out.below hb (by omega), ⟨1, 1⟩, HRS.out.symm, HG7.out.below hb (by omega)⟩
    case hps => intro k W xs h; unfold EncSh at h; subst h; rfl
    case hassign =>
      intro l0 k xs W K he hK
      unfold EncSh at he; subst he
      rw [round2C] at hK
      rw [fold2]
      simp only [List.setIfInBounds_toArray, List.set_cons_succ, List.set_cons_zero] at hK ⊢
      gi_wp2
      exact hK _ ((Below.refl _ _).alloc (Nat.le_refl _) _) (Blk.new _ _ _)
    case hbody =>
      rintro l0 z k xs b W hz hk ⟨hb, g2, g3, c, hc, g7⟩ hDD he hbk hl2 hl3
      unfold EncSh at he; subst he
      rw [round2C]
      simp only [List.setIfInBounds_toArray, List.set_cons_succ, List.set_cons_zero]
      have hbk : Blk W b #[.int .i64 (wtI x.m l k).1, .int .i64 (wtI x.m l k).2] 87 := hbk
      have hbd := HBD.out k hk
      rw [shL_drop hk] at hc
      obtain ⟨⟨wt, sm⟩, hws⟩ : ∃ q, q = wtI x.m l k := ⟨_, rfl⟩
      rw [← hws] at hbk hbd hc ⊢
      simp only at hbk hbd ⊢
      clear hws
      have e0 := hbk.cell 0; have c2 := g2.cell 0; have c2' := g2.cell 1; have c3 := g3.cell 0; have f2 := g2.free 0; have f2' := g2.free 1; have f3 := g3.free 0
      simp at e0 c2 c2' c3
      have HB := Lib.hid hb; have HG2 := Lib.hid g2; have HG3 := Lib.hid g3; have HD := Lib.hid hDD; have HG7 := Lib.hid g7
      have hl3 := g2.lt; have hl4 := g3.lt; have hl7 := g7.lt
      have hzh := hz z.1 (.inl rfl); have hzl := hz z.2.1 (.inr rfl)
      by_cases h9 : wt = 0
      · have hQ : (wt == 0) = true := by simp; exact h9
        simp only [chGo, if_pos h9] at hc
        have HRC := Lib.hid hc
        clear h9 hc hb g2 g3 g7 hDD hbk hbd
        gi_wp2
        obtain ⟨rfl, rfl, rfl⟩ : (0 : Int) = rn ∧ (1 : Int) = rd ∧ (0 : Int) = re := by have := HRC.out; simp at this; exact this
        have m2 := ((HG2.out.set 0 (.int .i64 0)).set 1 (.int .i64 1)).far ⟨b2 + 1 + 1, 0, none⟩ (by show b2 + 1 ≠ b2 + 1 + 1; omega) (.int .i64 0)
        simp at m2
        exact ⟨((((KeepsOthers.setCell _ _ _).from _).trans ((KeepsOthers.setCell _ _ _).from _))).trans ((KeepsOthers.setCell _ _ _).from _), rfl, ((HB.out.setCell (by show w.heap.size ≤ b2 + 1; omega) _).setCell (by show w.heap.size ≤ b2 + 1; omega) _).setCell (by show w.heap.size ≤ b2 + 1 + 1; omega) _,
          m2, ((HG3.out.far ⟨b2 + 1, 0, none⟩ (by show b2 + 1 + 1 ≠ b2 + 1; omega) (.int .i64 0)).far ⟨b2 + 1, 1, none⟩ (by show b2 + 1 + 1 ≠ b2 + 1; omega) (.int .i64 1)).set 0 (.int .i64 0)⟩
      · have hQ : (wt == 0) = false := by simp; exact h9
        simp only [chGo, if_neg h9] at hc
        obtain ⟨⟨bn, bd, be⟩, hbo⟩ : ∃ q, q = bothR c ⟨ratN wt sm, ratD wt sm⟩ := ⟨_, rfl⟩
        rw [← hbo] at hc
        simp only at hc
        have HCH := Lib.hid (fun W => chanS_any wt sm W hbd.1 (by omega) (by omega) (by omega))
        have HBO : Hid (∀ W, Calls Try.prog 61 #[.agg #[.int .i64 c.n, .int .i64 c.d], .agg #[.int .i64 (ratN wt sm), .int .i64 (ratD wt sm)]] W (RetC (bn, bd, be) W)) := Lib.hid fun W => by
          rw [hbo]; exact both_any c ⟨ratN wt sm, ratD wt sm⟩ W
        have HRC := Lib.hid hc
        clear h9 hc hbo hbd
        gi_wp2
        have hS : ∀ W', Below W.heap.size W W' → W'.cell? ⟨b7, 0, none⟩ = some (.int .i64 c.n) ∧ W'.cell? ⟨b7, 1, none⟩ = some (.int .i64 c.d) ∧ W'.cell? ⟨b, 0, none⟩ = some (.int .i64 wt) ∧ W'.cell? ⟨b, 1, none⟩ = some (.int .i64 sm) := fun W' hW => by
          have g7 := g7.below hW hl7
          have hbk := hbk.below hW hbk.lt
          have q0 := g7.cell 0; have q1 := g7.cell 1; have q2 := hbk.cell 0; have q3 := hbk.cell 1
          simp at q0 q1 q2 q3
          exact ⟨q0, q1, q2, q3⟩
        clear hb g2 g3 hDD e0 c2 c2' c3 f2 f2' f3
        refine' wpIn_region_plan 8 [7, 5, 4, 3, 2, 1, 0] [.eff, .eff, .eff, .eff, .eff, .eff, .pur, .eff, .last, .post] [Det _, Det _, Det (.agg #[.int .i64 (ratN wt sm), .int .i64 (ratD wt sm)]), Det (.tuple #[.agg #[.int .i64 bn, .int .i64 bd], .int .i64 be]), Det (.tuple #[.agg #[.int .i64 bn, .int .i64 bd], .int .i64 be]), Det (.agg #[.int .i64 bn, .int .i64 bd]), Det (.int .i64 be), fun x W' => ∃ b10, x = .pointer (some ⟨b10, 0, none⟩) ∧ Blk W' b10 #[.int .i64 0, .int .i64 0] 27 ∧ W.heap.size ≤ b10, noF, Det (.int .i64 be)] (by rfl) [(7, 10), (5, 35)] [(9, 11), (7, 10), (6, 36), (5, 35), (4, 30), (3, 34), (2, 33), (1, 32), (0, 31)] (by kernel_rfl) (by kernel_rfl) (by kernel_rfl) (by kernel_rfl) (by kernel_rfl) (by kernel_rfl) (by kernel_rfl) (by kernel_rfl) (by kernel_rfl) (by kernel_rfl) rfl ?hp ?hend ?hst
        case hp =>
          refine And.intro ⟨[], by kernel_rfl, fun xs W hW hf K hK => opV_free rfl ?_⟩ ?_
          focus (have hs := hS W hW; (try simp only [factsL, pickF, Det, and_true] at hf); (try simp only [putL, Act.put, List.setIfInBounds_toArray, List.set_cons_zero, List.set_cons_succ]); (try simp only [hf]); go_simp; refine hK.out _ _ (Below.refl _ _) ?_; unfold Det; rfl)
          refine And.intro ⟨[], by kernel_rfl, fun xs W hW hf K hK => opV_free rfl ?_⟩ ?_
          focus (have hs := hS W hW; (try simp only [factsL, pickF, Det, and_true] at hf); (try simp only [putL, Act.put, List.setIfInBounds_toArray, List.set_cons_zero, List.set_cons_succ]); (try simp only [hf]); go_simp; refine hK.out _ _ (Below.refl _ _) ?_; unfold Det; rfl)
          refine And.intro ⟨[(1, 32)], by kernel_rfl, fun xs W hW hf K hK => opV_free rfl ?_⟩ ?_
          · simp only [factsL, pickF, Det, and_true] at hf
            (try simp only [putL, Act.put, List.setIfInBounds_toArray, List.set_cons_zero, List.set_cons_succ])
            simp only [hf]
            go_simp
            refine (HCH.out _).mono ?_
            rintro _ w9 ⟨rfl, hb9⟩
            exact ⟨_, rfl, hK.out _ _ hb9 rfl⟩
          refine And.intro ⟨[(2, 33), (0, 31)], by kernel_rfl, fun xs W hW hf K hK => opV_free rfl ?_⟩ ?_
          · simp only [factsL, pickF, Det, and_true] at hf
            (try simp only [putL, Act.put, List.setIfInBounds_toArray, List.set_cons_zero, List.set_cons_succ])
            simp only [hf]
            go_simp
            refine (HBO.out _).mono ?_
            rintro _ w9 ⟨rfl, hb9⟩
            exact ⟨_, rfl, hK.out _ _ hb9 rfl⟩
          refine And.intro ⟨[(3, 34)], by kernel_rfl, fun xs W hW hf K hK => opV_free rfl ?_⟩ ?_
          focus (have hs := hS W hW; (try simp only [factsL, pickF, Det, and_true] at hf); (try simp only [putL, Act.put, List.setIfInBounds_toArray, List.set_cons_zero, List.set_cons_succ]); (try simp only [hf]); go_simp; refine hK.out _ _ (Below.refl _ _) ?_; unfold Det; rfl)
          refine And.intro ⟨[(4, 30)], by kernel_rfl, fun xs W hW hf K hK => opV_free rfl ?_⟩ ?_
          focus (have hs := hS W hW; (try simp only [factsL, pickF, Det, and_true] at hf); (try simp only [putL, Act.put, List.setIfInBounds_toArray, List.set_cons_zero, List.set_cons_succ]); (try simp only [hf]); go_simp; refine hK.out _ _ (Below.refl _ _) ?_; unfold Det; rfl)
          refine And.intro ⟨[(4, 30)], by kernel_rfl, fun xs W hW hf => ⟨_, det_rfl, yields_free rfl (fun w => ?_)⟩⟩ ?_
          focus ((try simp only [factsL, pickF, Det, and_true] at hf); (try simp only [putL, Act.put, List.setIfInBounds_toArray, List.set_cons_zero, List.set_cons_succ]); (try simp only [hf]); go_simp)
          refine And.intro ⟨[], by kernel_rfl, fun xs W hW hf K hK => opV_free rfl ?_⟩ ?_
          · simp only [factsL, pickF, Det, and_true] at hf
            (try simp only [putL, Act.put, List.setIfInBounds_toArray, List.set_cons_zero, List.set_cons_succ])
            go_simp
            exact hK.out _ _ ((Below.refl _ _).alloc (Nat.le_refl _) _) ⟨_, rfl, Blk.new _ _ _, hW.size⟩
          refine And.intro ⟨[(6, 36)], by kernel_rfl, fun xs W hW hf => ⟨_, det_rfl, yields_free rfl (fun w => ?_)⟩⟩ ?_
          focus ((try simp only [factsL, pickF, Det, and_true] at hf); (try simp only [putL, Act.put, List.setIfInBounds_toArray, List.set_cons_zero, List.set_cons_succ]); (try simp only [hf]); go_simp)
          trivial
        case hst => exact ⟨det_stays, det_stays, det_stays, det_stays, det_stays, det_stays, det_stays, fun x W W' ⟨b, h1, h2, h3⟩ hb => ⟨b, h1, h2.below hb h2.lt, h3⟩, noF_stays, det_stays, trivial⟩
        case hend =>
          intro xs W3 hW hf
          simp only [factsA, Det, noF, Nat.zero_add, Nat.reduceAdd, and_true, true_and] at hf
          obtain ⟨f0, f1, f2, f3, f4, f5, f6, ⟨b10, f7, hB, hz10⟩, f9⟩ := hf
          refine opV_free rfl ?_
          (simp only [putL, Act.put, upd, List.setIfInBounds_toArray, List.set_cons_zero, List.set_cons_succ])
          simp only [f0, f1, f2, f3, f4, f5, f6, f7, f9]
          clear f0 f1 f2 f3 f4 f5 f6 f7 f9
          have hB0 := hB.free 0; have hB1 := hB.free 1
          have hC0 := hB.cell 0; have hC1 := hB.cell 1
          simp at hC0 hC1
          have hW3 := hW.size
          go_simp
          refine gen_w (fun W' => Below W.heap.size W W' ∧ Blk W' b10 #[.int .i64 bn, .int .i64 bd] 27) ⟨(hW.setCell (p := ⟨b10, 0, none⟩) hz10 _).setCell (p := ⟨b10, 1, none⟩) hz10 _, by have := (hB.set 0 (.int .i64 bn)).set 1 (.int .i64 bd); simp at this; exact this⟩ ?_
          rintro W4 ⟨h4, g10⟩
          have hl10 := g10.lt
          have q0 := g10.cell 0; have q1 := g10.cell 1
          simp at q0 q1
          have g2 := HG2.out.below h4 hl3
          have g3 := HG3.out.below h4 hl4
          have g7 := HG7.out.below h4 hl7
          have hHB := bl2 HB.out h4
          clear hB hW hB0 hB1 hC0 hC1 hS
          by_cases hbe : be = 0
          · have hQ2 : (be != 0) = false := by simp; exact hbe
            have q7 := g7.cell 0; have q8 := g7.cell 1; have f7 := g7.free 0; have f8 := g7.free 1
            simp at q7 q8
            have hRC := HRC.out
            rw [if_pos hbe] at hRC
            have HRC := Lib.hid hRC
            clear hRC hbe
            gi_wp2
            have m7 := (g7.set 0 (.int .i64 bn)).set 1 (.int .i64 bd)
            simp at m7
            refine ⟨(keepsFrom_below h4).trans (((KeepsOthers.setCell _ _ _).from _).trans ((KeepsOthers.setCell _ _ _).from _)), ⟨(hHB.setCell (by show w.heap.size ≤ b7; omega) _).setCell (by show w.heap.size ≤ b7; omega) _, (g2.far ⟨b7, 0, none⟩ (by show b2 + 1 ≠ b7; omega) _).far ⟨b7, 1, none⟩ (by show b2 + 1 ≠ b7; omega) _, (g3.far ⟨b7, 0, none⟩ (by show b2 + 1 + 1 ≠ b7; omega) _).far ⟨b7, 1, none⟩ (by show b2 + 1 + 1 ≠ b7; omega) _, ⟨bn, bd⟩, HRC.out, m7⟩, ?_⟩
            exact ((HD.out.below h4).setCell ⟨b7, 0, none⟩ (.int .i64 bn) (by show w.heap.size ≤ b7; omega) (by show b7 ≠ _; omega) (by show b7 ≠ _; omega) (by show b7 ≠ _; omega) (by show b7 ≠ _; omega)).setCell ⟨b7, 1, none⟩ (.int .i64 bd) (by show w.heap.size ≤ b7; omega) (by show b7 ≠ _; omega) (by show b7 ≠ _; omega) (by show b7 ≠ _; omega) (by show b7 ≠ _; omega)
          · have hQ2 : (be != 0) = true := by simp; exact hbe
            have q7 := g2.cell 0; have q8 := g2.cell 1; have q9 := g3.cell 0; have f7 := g2.free 0; have f8 := g2.free 1; have f9 := g3.free 0
            simp at q7 q8 q9
            have hRC := HRC.out
            rw [if_neg hbe] at hRC
            obtain ⟨rfl, rfl, rfl⟩ : (0 : Int) = rn ∧ (0 : Int) = rd ∧ be = re := by simp at hRC; exact hRC
            clear hRC hbe
            gi_wp2
            have m2 := ((g2.set 0 (.int .i64 0)).set 1 (.int .i64 0)).far ⟨b2 + 1 + 1, 0, none⟩ (by show b2 + 1 ≠ b2 + 1 + 1; omega) (.int .i64 be)
            simp at m2
            exact ⟨(keepsFrom_below h4).trans (((((KeepsOthers.setCell _ _ _).from _).trans ((KeepsOthers.setCell _ _ _).from _))).trans ((KeepsOthers.setCell _ _ _).from _)), rfl, ((hHB.setCell (by show w.heap.size ≤ b2 + 1; omega) _).setCell (by show w.heap.size ≤ b2 + 1; omega) _).setCell (by show w.heap.size ≤ b2 + 1 + 1; omega) _,
              m2, ((g3.far ⟨b2 + 1, 0, none⟩ (by show b2 + 1 + 1 ≠ b2 + 1; omega) (.int .i64 0)).far ⟨b2 + 1, 1, none⟩ (by show b2 + 1 + 1 ≠ b2 + 1; omega) (.int .i64 0)).set 0 (.int .i64 be)⟩
    case hdone =>
      rintro z D W hz ⟨hb, g2, g3, c, hc, g7⟩ hD hDW
      have hc : c.n = rn ∧ c.d = rd ∧ 0 = re := by rw [shL_end] at hc; simp [chGo] at hc; exact hc
      obtain ⟨h1, h2, rfl⟩ := hc
      rw [h1, h2] at g7
      clear h1 h2
      have c2 := g2.cell 0; have c4 := g2.cell 1; have c3 := g3.cell 0; have f2 := g2.free 0; have f4 := g2.free 1; have f3 := g3.free 0; have c7 := g7.cell 0; have c8 := g7.cell 1
      simp at c2 c3 c4 c7 c8
      have HB := Lib.hid hb; have HG2 := Lib.hid g2; have HG3 := Lib.hid g3; have HDW := Lib.hid hDW
      have hl3 := g2.lt; have hl4 := g3.lt
      clear hb g2 g3 g7 hDW
      go_wp2
      have hK2 := (((KeepsOthers.setCell W ⟨b2 + 1, 0, none⟩ (.int .i64 rn)).trans (KeepsOthers.setCell _ ⟨b2 + 1, 1, none⟩ (.int .i64 rd))).trans (KeepsOthers.setCell _ ⟨b2 + 1 + 1, 0, none⟩ (.int .i64 0))).same _ _ HDW.out rfl
      have m2 := (((HG2.out.set 0 (.int .i64 rn)).set 1 (.int .i64 rd)).far ⟨b2 + 1 + 1, 0, none⟩ (by show b2 + 1 ≠ b2 + 1 + 1; omega) (.int .i64 0)).putObj (o' := .deferred none) hK2 rfl
      have m3 := (((HG3.out.far ⟨b2 + 1, 0, none⟩ (by show b2 + 1 + 1 ≠ b2 + 1; omega) (.int .i64 rn)).far ⟨b2 + 1, 1, none⟩ (by show b2 + 1 + 1 ≠ b2 + 1; omega) (.int .i64 rd)).set 0 (.int .i64 0)).putObj (o' := .deferred none) hK2 rfl
      have x2 := m2.cell 0; have x3 := m3.cell 0; have x4 := m2.cell 1
      simp at x2 x3 x4
      refine marks_ret1 (v := .tuple #[.agg #[.int .i64 rn, .int .i64 rd], .int .i64 0]) rfl hK2 (by simp [results, Try.results24, go_sem, x2, x3, x4]) ?_
      rw [HEX.out]
      exact ⟨rfl, below_putObj (((HB.out.setCell (by show w.heap.size ≤ b2 + 1; omega) _).setCell (by show w.heap.size ≤ b2 + 1; omega) _).setCell (by show w.heap.size ≤ b2 + 1 + 1; omega) _) (by omega) hK2 _⟩
    case hstop =>
      rintro D c W ⟨rfl, hb, g2, g3⟩ hD hDW
      refine wp_ret ?_
      have m2 := g2.putObj (o' := .deferred none) hDW rfl
      have m3 := g3.putObj (o' := .deferred none) hDW rfl
      have x2 := m2.cell 0; have x4 := m2.cell 1; have x3 := m3.cell 0
      simp at x2 x3 x4
      refine marks_ret1 (v := .tuple #[.agg #[.int .i64 rn, .int .i64 rd], .int .i64 re]) rfl hDW (by simp [results, Try.results24, go_sem, x2, x3, x4]) ?_
      rw [HEX.out]
      exact ⟨rfl, below_putObj hb (by omega) hDW _⟩
  · have HEX : Hid (chanR x.m l = (0, 0, er)) := (by show _ = _; unfold chanR; rw [if_neg (by rw [← HRE.out, ← HR.out]; exact h0), ← HRE.out, ← HR.out] : _)
    have hQ : (er != 0) = true := by simp; exact h0
    go_wp2_with (first | (go_at_call 40; refine (HC.out _ (by (repeat (first | exact Below.refl _ _ | assumption | (refine Below.alloc ?_ (by first | omega | (simp; omega) | (simp; done)) _) | (refine Below.setCell ?_ (by first | omega | (simp; omega) | (simp; done)) _) | (refine Below.drew ?_) | (refine belowN ?_ _) | (refine Below.trans ?_ (Below.mono ‹Below _ _ _› (by first | omega | (simp; omega) | (simp; done))))))) _ (Blk.new V _ _)).mono ?_; rintro _ w1 ⟨rfl, hb1⟩; refine Hid.out ?_) | fail)
    have hb1V : Below V.heap.size V w1 := ((Below.refl _ V).alloc (Nat.le_refl _) _).trans (hb1.mono (by simp))
    have g2 := g2.below hb1V (by omega)
    have g3 := g3.below hb1V (by omega)
    have hV1 := bl2 hV hb1V
    have f2 := g2.free 0; have f3 := g3.free 0; have f4 := g2.free 1
    have c2 := g2.cell 0; have c3 := g3.cell 0; have c4 := g2.cell 1
    simp at c2 c3 c4
    have hz1 := hb1V.size
    clear hb1 hb1V
    refine Lib.hid ?_
    go_wp2_with fail
    have m2 := ((g2.set 0 (.int .i64 0)).set 1 (.int .i64 0)).far ⟨b2 + 1 + 1, 0, none⟩ (by show b2 + 1 ≠ b2 + 1 + 1; omega) (.int .i64 er)
    have m3 := ((g3.far ⟨b2 + 1, 0, none⟩ (by show b2 + 1 + 1 ≠ b2 + 1; omega) (.int .i64 0)).far ⟨b2 + 1, 1, none⟩ (by show b2 + 1 + 1 ≠ b2 + 1; omega) (.int .i64 0)).set 0 (.int .i64 er)
    have x2 := m2.cell 0; have x3 := m3.cell 0; have x4 := m2.cell 1
    simp at x2 x3 x4
    refine marks_ret0 (v := .tuple #[.agg #[.int .i64 0, .int .i64 0], .int .i64 er]) rfl (by simp [results, Try.results24, go_sem, x2, x3, x4]) ?_
    rw [HEX.out]
    exact ⟨rfl, ((hV1.setCell (by show w.heap.size ≤ b2 + 1; omega) _).setCell (by show w.heap.size ≤ b2 + 1; omega) _).setCell (by show w.heap.size ≤ b2 + 1 + 1; omega) _⟩
end Go.Proofs.Ytiikkcifdhcejaa

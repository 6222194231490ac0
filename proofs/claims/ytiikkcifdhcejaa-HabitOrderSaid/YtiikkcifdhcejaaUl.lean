/- habit, references: Rank. -/
import Derived.Test.YtiikkcifdhcejaaWz
import Derived.Test.YtiikkcifdhcejaaZ36Uh
namespace Go.Proofs.Ytiikkcifdhcejaa
open Go.RowKit

theorem step_app_at {P : Program} {w : World} {ops : Array Oper} {o : Oper} {a : Act} {K : Act → World → Prop} {Q : Exit → Act → World → Prop} {E : Prop} (hgd : o.guard = none) (s x : Operand) (t : TypeId)
    (ho : o.op = .call { callee := .builtin .append, args := #[s, x], argTypes := #[t, t] })
    (base : Nat) (e : TypeId) (i : TypeInfo) (z : Value) (size bytes : Nat) (ht : P.underlying t = some (.slice e)) (hi : P.info? e = some i) (hz : i.zero = some z)
    (hsize : i.size = size) (hby : i.bytes = bytes) (hzs : z.cells.size = size) (hsz : 0 < size)
    (v : Value) (n : Nat) (xs : List Value) (hs : a.eval s = v) (hown : w.ownsRow base e size v n xs)
    (ad : Addr) (m c : Nat) (news : List Value) (hx : a.eval x = .slice (some ad) m c) (hl : news.length = m * size) (hnews : ∀ j u, news[j]? = some u → w.cell? (ad.add j) = some u) (h1 : ∀ u ∈ news, u.oneCell' = true)
    (h63 : n + m ≤ maxLen) (hbytes : (n + m) * bytes ≤ 140737488355328) (hbase : base ≤ w.heap.size)
    (h : ∀ v' w', w'.ownsRow base e size v' (n + m) (xs ++ news) → w.grownBy w' v.ownBlock → (v'.ownBlock = v.ownBlock ∨ v'.ownBlock = some w.heap.size) → K (a.put o.dst v') w') :
    if Region.wanted o (yielded ops a.tmps) = true then Oper.wp P o a w K Q else E := by
  have hw : Region.wanted o (yielded ops a.tmps) = true := by simp [Region.wanted, hgd]
  rw [if_pos hw]
  obtain ⟨v', w', hr, h2, h3, _, h5⟩ := run_append_own_at (P := P) w base t o.type e i z size bytes ht hi hz hsize hby hzs hsz v n xs hown ad m c news hl hnews h1 h63 hbytes hbase
  unfold Oper.wp execOp
  simp only [ho, resolve, invoke, builtin, Sem.run_bind, Sem.run_pure, Result.andThen_ok, List.map_toArray, List.map_cons, List.map_nil, hs, hx, hr]
  exact h v' w' h2 h3 h5
theorem cut_from (g k c : Nat) : ∃ o, (if c = k then (some ⟨g, 0, none⟩ : Option Addr) else some ⟨g, k, none⟩) = some ⟨g, o, none⟩ ∧ (k < c → o = k) := by
  by_cases h : c = k
  · rw [if_pos h]
    exact ⟨0, rfl, fun h => by omega⟩
  · rw [if_neg h]
    exact ⟨k, rfl, fun _ => rfl⟩
/-- numbers as values -/
def natV (L : List Nat) : List Value := L.map fun (x : Nat) => Value.int .i64 (x : Int)
theorem natV_len (L : List Nat) : (natV L).length = L.length := by simp [natV]
theorem natV_one (L : List Nat) : ∀ u ∈ natV L, u.oneCell' = true := fun u hu => by
  obtain ⟨x, _, rfl⟩ := List.mem_map.1 hu; rfl
theorem natV_app (L M : List Nat) : natV (L ++ M) = natV L ++ natV M := by simp [natV]
theorem OrdB.news {W : World} {g : Nat} {L : List Nat} {rest : List Value} (h : OrdB W g L rest) (k m o : Nat) (ho : k < L.length → o = k) : ∀ (j : Nat) (u : Value), (natV ((L.drop k).take m))[j]? = some u → W.cell? ((⟨g, o, none⟩ : Addr).add j) = some u := fun j u hu => by
  unfold natV at hu
  rw [List.getElem?_map, List.getElem?_take] at hu
  split at hu
  · rw [List.getElem?_drop] at hu
    have hj : k + j < L.length := by
      rcases Nat.lt_or_ge (k + j) L.length with h1 | h1
      · exact h1
      · rw [List.getElem?_eq_none h1] at hu; simp at hu
    obtain rfl := ho (by omega)
    have h1 := (h.at_ hj).1
    rw [List.getElem?_eq_getElem hj] at hu
    rw [List.getD_eq_getElem?_getD, List.getElem?_eq_getElem hj] at h1
    rw [Go.WideShapes.add_plain, h1]
    simpa using hu
  · simp at hu
theorem OrdB.of_own {W : World} {base n : Nat} {v : Value} {L : List Nat} (hn : 0 < n) (h : W.ownsRow base 3 1 v n (natV L)) : ∃ g cap rest, v = .slice (some ⟨g, 0, none⟩) n cap ∧ n ≤ cap ∧ OrdB W g L rest := by
  rcases h.2 with ⟨h1, h2⟩ | ⟨g, cap, cur, rfl, hbg, hg, hnc, hcm, hcs, htk⟩
  · omega
  refine ⟨g, cap, cur.toList.drop (n * 1), rfl, hnc, ?_⟩
  have hcur : cur = (natV L ++ cur.toList.drop (n * 1)).toArray := by
    apply Array.ext'
    show cur.toList = natV L ++ cur.toList.drop (n * 1)
    rw [← htk, List.take_append_drop]
  unfold OrdB Blk
  unfold natV at hcur
  rw [← hcur]; exact hg
theorem own_far {W : World} {base e s n g : Nat} {v : Value} {xs : List Value} (h : W.ownsRow base e s v n xs) (hg : g < base) : some g ≠ v.ownBlock := fun e1 => by
  have := (h.lt g e1.symm).1; omega
theorem own_empty {W : World} {base b : Nat} (h : W.heap[b]? = some (.cells #[] 3)) (hb : base ≤ b) : W.ownsRow base 3 1 (.slice (some ⟨b, 0, none⟩) 0 0) 0 [] :=
  ⟨by simp, .inr ⟨b, 0, #[], rfl, hb, h, by omega, by unfold maxLen; omega, by simp, by simp⟩⟩
theorem rank_ins {c : Nat → Nat → Bool} {i j : Nat} (hj : j ≤ i) (h : insAt (fun t => c ((rankL c i).getD t 0) i) i = j) : natV (((rankL c i).drop 0).take j) ++ [.int .i64 (i : Int)] ++ natV (((rankL c i).drop j).take (i - j)) = natV (rankL c (i + 1)) := by
  simp only [rankL, insO, rankL_len]
  rw [h, natV_app, List.drop_zero, List.append_assoc, List.take_of_length_le (l := (rankL c i).drop j) (by rw [List.length_drop, rankL_len]; omega)]
  rfl
theorem natV_cut {L : List Nat} {k m : Nat} (h : k + m ≤ L.length) : (natV ((L.drop k).take m)).length = m * 1 := by
  rw [natV_len, List.length_take, List.length_drop]; omega
theorem own_new {W : World} {base e s n : Nat} {v : Value} {xs : List Value} (h : W.ownsRow base e s v n xs) : some W.heap.size ≠ v.ownBlock := fun e1 => by
  have := (h.lt _ e1.symm).2; omega
theorem ne_at {W : World} {b : Nat} {v v' : Value} (h : some b ≠ v.ownBlock) (hb : b < W.heap.size) (hat : v'.ownBlock = v.ownBlock ∨ v'.ownBlock = some W.heap.size) : some b ≠ v'.ownBlock := by
  rcases hat with e | e
  · rw [e]; exact h
  · rw [e]; intro e2; cases e2; omega
/-- the old list while a new one is made -/
structure RrO (U : World) (zb g : Nat) (L : List Nat) (rest : List Value) (W : World) : Prop where
  og : OrdB W g L rest
  gz : g < zb
  hb : Below zb U W
  hz : zb ≤ W.heap.size
theorem RrO.step {U : World} {zb g : Nat} {L : List Nat} {rest : List Value} {W W' : World} (h : RrO U zb g L rest W) (hb : Below W.heap.size W W') : RrO U zb g L rest W' :=
  ⟨Blk.below h.og hb (Blk.lt h.og), h.gz, h.hb.trans (hb.mono h.hz), Nat.le_trans h.hz hb.size⟩
theorem RrO.app {U : World} {zb g : Nat} {L : List Nat} {rest : List Value} {W W' : World} {e s n : Nat} {v : Value} {xs : List Value} (h : RrO U zb g L rest W) (ho : W.ownsRow zb e s v n xs) (hg : W.grownBy W' v.ownBlock) : RrO U zb g L rest W' :=
  ⟨Blk.grown h.og hg (own_far ho h.gz), h.gz, h.hb.grown hg h.hz (fun q hq => (ho.lt q hq).1), Nat.le_trans h.hz hg.size⟩
set_option maxRecDepth 100000 in
set_option maxHeartbeats 4000000 in
theorem rrank_any (mA : Option Addr) (mc : Nat) (ms : List Md) (lA : Option Addr) (lc : Nat) (l : List Int) (w : World) (hl : l.length ≤ 1000) (hm : ms.length ≤ 1000000) (hok : ∀ m ∈ ms.map Md.m, ModOk m ∧ regB m.outs l) (hs : Mds w w.heap.size mA ms) (hr : Sl intCell 1 w w.heap.size lA l) :
    Calls Try.prog 38 #[.slice mA ms.length mc, .slice lA l.length lc] w fun e w' => ∃ A c, e = .returned (.slice A (rkL (ms.map Md.m) l).length c) ∧ Sl intCell 1 w' w'.heap.size A (rkL (ms.map Md.m) l) ∧ Below w.heap.size w w' := by
  obtain ⟨i0', hInf, iz0, iz1, iz2⟩ := info_parts infoInt
  have HCP : Hid (∀ o i, (ho : o < ms.length) → (hi : i < ms.length) → ∀ W, Below w.heap.size w W → Calls Try.prog 18 #[.agg #[.int .i64 ms[o].kind, .slice ms[o].a ms[o].rows.length ms[o].c, .int .i64 ms[o].after], .agg #[.int .i64 ms[i].kind, .slice ms[i].a ms[i].rows.length ms[i].c, .int .i64 ms[i].after], .slice lA l.length lc] W fun e w' => e = .returned (.int .i64 (rkV (ms.map Md.m) l i o)) ∧ Below W.heap.size W w') := Lib.hid fun o i ho hi W hW => by
    have h1 := hok ms[o].m (List.mem_map_of_mem (List.getElem_mem ho))
    have h2 := hok ms[i].m (List.mem_map_of_mem (List.getElem_mem hi))
    have h3 := rcompareM_any ms[o] ms[i] lA lc l W h1.1 h2.1 h1.2 h2.2 hl (((hs.each _ (List.getElem_mem ho)).below hW).more hW.size) (((hs.each _ (List.getElem_mem hi)).below hW).more hW.size) ((hr.below hW).more hW.size)
    have e1 : rkV (ms.map Md.m) l i o = cmpM ms[o].m ms[i].m l := by unfold rkV rkP rkQ cmpM; simp [List.getElem?_eq_getElem ho, List.getElem?_eq_getElem hi]
    rw [e1]; exact h3
  have HTP := Lib.hid hs.top
  have HRV : Hid (rkL (ms.map Md.m) l = (rankL (fun o x => decide (rkV (ms.map Md.m) l x o < 0)) ms.length).map fun (x : Nat) => (x : Int)) := Lib.hid (by unfold rkL rkC; rw [List.length_map])
  obtain ⟨RL, hRL⟩ : ∃ q, q = rkL (ms.map Md.m) l := ⟨_, rfl⟩
  rw [← hRL] at HRV ⊢
  obtain ⟨cv, hcv⟩ : ∃ q, q = rkV (ms.map Md.m) l := ⟨_, rfl⟩
  rw [← hcv] at HRV HCP
  obtain ⟨c, hc⟩ : ∃ c : Nat → Nat → Bool, c = fun o x => decide (cv x o < 0) := ⟨_, rfl⟩
  have HC : Hid (∀ o x, c o x = decide (cv x o < 0)) := Lib.hid fun o x => by rw [hc]
  rw [← hc] at HRV
  have HML := Lib.hid hm; have HLL := Lib.hid hl
  clear hc hcv hRL hs hr hok hl
  go_enter Try.func38, Try.ntmps38
  go_wp2
  refine gen_w (fun W => Hid (OrdB W w.heap.size [] []) ∧ Hid (Below w.heap.size w W)) ⟨Lib.hid (Blk.new w _ _), Lib.hid (by (repeat (first | exact Below.refl _ _ | assumption | (refine Below.alloc ?_ (by first | omega | (simp; omega) | (simp; done)) _) | (refine Below.setCell ?_ (by first | omega | (simp; omega) | (simp; done)) _) | (refine Below.drew ?_) | (refine belowN ?_ _) | (refine Below.trans ?_ (Below.mono ‹Below _ _ _› (by first | omega | (simp; omega) | (simp; done)))))))⟩ ?_
  rintro V ⟨HG, HW⟩
  go_loopw [5, 6] (fun ov iv W => ∃ (i g cap : Nat) (rest : List Value), i ≤ ms.length ∧ .slice (some ⟨g, 0, none⟩) i cap = ov ∧ iv = .int .i64 (i : Int) ∧ i ≤ cap ∧ Hid (OrdB W g (rankL c i) rest) ∧ Hid (Below w.heap.size w W)) (fun _ iv _ => ms.length - (intOf iv).toNat)
  case atStart => exact ⟨0, _, 0, _, by omega, rfl, rfl, by omega, HG, HW⟩
  case round =>
    clear HG HW
    obtain ⟨i, g, cap, rest, hi, rfl, rfl, hcap, HG, HW⟩ := hrel
    by_cases hlt : i < ms.length
    · have HRL := Lib.hid (rankL_len c i)
      have HRB := Lib.hid (rankL_lt c i)
      obtain ⟨ab, ao, rfl, hblk, hcell⟩ := HTP.out.at_ (k := i) (fun _ => rfl) hlt
      have i0 : (0 : Int) ≤ (i : Int) := by omega
      have i1 : (i : Int) < (ms.length : Int) := by omega
      go_wp2
      rename World => wo
      go_loopw [7] (fun av W => ∃ j : Nat, j ≤ i ∧ av = .int .i64 (j : Int) ∧ Hid (insAt (fun t => c ((rankL c i).getD t 0) i) i = insAt (fun t => c ((rankL c i).getD t 0) i) j) ∧ Hid (Below wo.heap.size wo W)) (fun av _ => (intOf av).toNat)
      case atStart => exact ⟨i, Nat.le_refl _, rfl, Lib.hid rfl, Lib.hid (Below.refl _ _)⟩
      case round =>
        obtain ⟨j, hj, rfl, HIA, HB⟩ := hrel
        have HG : Hid (OrdB wr g (rankL c i) rest) := Lib.hid (Blk.below HG.out HB.out (Blk.lt HG.out))
        have HW : Hid (Below w.heap.size w wr) := Lib.hid (HW.out.trans (HB.out.mono HW.out.size))
        by_cases hj0 : j = 0
        · have HIJ : Hid (insAt (fun t => c ((rankL c i).getD t 0) i) i = j) := Lib.hid (by rw [HIA.out, hj0]; rfl)
          have dj : decide ((0 : Int) < (j : Int)) = false := decide_eq_false (by omega)
          have dj2 : decide (0 < j) = false := decide_eq_false (by omega)
          clear hj0 HIA HTP hblk hcell HB HCP
          go_wp2
          (refine wp_region_ext (by kernel_rfl) (by kernel_rfl) ?_; (repeat (go_big_quiet_step((fail)))); with_reducible refine wpQuiet_nil ?_; intro w1 hw1; have hb1 := ext_below hw1; clear hw1)
          have HW1 : Hid (Below w.heap.size w w1) := Lib.hid (HW.out.trans (hb1.mono HW.out.size))
          have HG : Hid (OrdB w1 g (rankL c i) rest) := Lib.hid (Blk.below HG.out hb1 (Blk.lt HG.out))
          clear hb1 HW
          have hgz := Blk.lt HG.out
          obtain ⟨zb, hzb⟩ : ∃ z, z = (World.heap w1).size := ⟨_, rfl⟩
          have hr0 : RrO (World.drew w1) zb g (rankL c i) rest (World.drew w1) := ⟨Blk.below HG.out (Below.refl _ _).drew (Blk.lt HG.out), by omega, Below.refl _ _, by rw [hzb]; exact ((Below.refl (World.heap w1).size w1).drew).size⟩
          have HR := Lib.hid hr0
          have HUB := Lib.hid ((Below.refl (World.heap w1).size w1).drew)
          have HZB : Hid (w.heap.size ≤ zb) := Lib.hid (by rw [hzb]; exact HW1.out.size)
          have HUB : Hid (Below w.heap.size w1 (World.drew w1)) := Lib.hid (HUB.out.mono HW1.out.size)
          obtain ⟨so, hso, hso2⟩ := cut_from g j cap
          have HSO := Lib.hid hso2
          clear hr0 hzb hso2 hgz
          go_wp2_with fail
          refine wp_region_noPanic ?_
          refine wp_region_T (S := fun _ => True) 12 (by kernel_rfl) (by kernel_rfl) (by kernel_rfl) (by kernel_rfl) (by decide) trivial (fun hHeld => ?_)
          generalize World.drew w1 = U at HR HUB ⊢
          refine WT.takeD (i := 1) (d := some 39) (v := ?v1p) rfl rfl (by decide) (by kernel_rfl) (by kernel_rfl) (fun _ _ _ h => h) (Or.inl ⟨by rfl, ?h1p⟩) (by assumption) ?r1p
          case h1p => (intro w hSw; (try dsimp only at hSw); go_simp; (try with_reducible rfl))
          try simp only [Act.put, List.setIfInBounds_toArray, List.set_cons_zero, List.set_cons_succ]
          refine WT.takeD (i := 2) (d := some 40) (v := ?v2p) rfl rfl (by decide) (by kernel_rfl) (by kernel_rfl) (fun _ _ _ h => h) (Or.inl ⟨by rfl, ?h2p⟩) (by assumption) ?r2p
          case h2p => (intro w hSw; (try dsimp only at hSw); go_simp; (try with_reducible rfl))
          try simp only [Act.put, List.setIfInBounds_toArray, List.set_cons_zero, List.set_cons_succ]
          refine WT.takeD (i := 3) (d := some 41) (v := .slice (some ⟨g, 0, none⟩) j cap) rfl rfl (by decide) (by kernel_rfl) (by kernel_rfl) (fun _ _ _ h => h) (Or.inl ⟨by rfl, ?hs3p⟩) (by assumption) ?rs3p
          case hs3p => (intro w _; go_simp; intro h9; exfalso; omega)
          try simp only [Act.put, List.setIfInBounds_toArray, List.set_cons_zero, List.set_cons_succ]
          refine WT.takeD (i := 5) (d := some 43) (v := ?v5p) rfl rfl (by decide) (by kernel_rfl) (by kernel_rfl) (fun _ _ _ h => h) (Or.inl ⟨by rfl, ?h5p⟩) (by assumption) ?r5p
          case h5p => (intro w hSw; (try dsimp only at hSw); go_simp; (try with_reducible rfl))
          try simp only [Act.put, List.setIfInBounds_toArray, List.set_cons_zero, List.set_cons_succ]
          refine WT.takeD (i := 8) (d := some 46) (v := ?v8p) rfl rfl (by decide) (by kernel_rfl) (by kernel_rfl) (fun _ _ _ h => h) (Or.inl ⟨by rfl, ?h8p⟩) (by assumption) ?r8p
          case h8p => (intro w hSw; (try dsimp only at hSw); go_simp; (try with_reducible rfl))
          try simp only [Act.put, List.setIfInBounds_toArray, List.set_cons_zero, List.set_cons_succ]
          refine WT.takeD (i := 9) (d := some 47) (v := ?v9p) rfl rfl (by decide) (by kernel_rfl) (by kernel_rfl) (fun _ _ _ h => h) (Or.inl ⟨by rfl, ?h9p⟩) (by assumption) ?r9p
          case h9p => (intro w hSw; (try dsimp only at hSw); go_simp; (try with_reducible rfl))
          try simp only [Act.put, List.setIfInBounds_toArray, List.set_cons_zero, List.set_cons_succ]
          refine WT.takeD (i := 10) (d := some 48) (v := .slice (some ⟨g, so, none⟩) (i - j) (cap - j)) rfl rfl (by decide) (by kernel_rfl) (by kernel_rfl) (fun _ _ _ h => h) (Or.inl ⟨by rfl, ?hs10p⟩) (by assumption) ?rs10p
          case hs10p => (intro w _; go_simp; (try exact hso))
          try simp only [Act.put, List.setIfInBounds_toArray, List.set_cons_zero, List.set_cons_succ]
          clear hso
          refine WT.two (i := 0) (j := 6) rfl rfl (by decide) (by decide) (by kernel_rfl) (fun K hK => ?_) (fun K hK => ?_)
          focus
            go_simp
            refine gen_al (R := K) ?_
            intro V0 hbV hbl
            have HV := Lib.hid (own_empty (base := zb) hbl HR.out.hz)
            have HR := Lib.hid (HR.out.step hbV)
            try have HN6 := Lib.hid (fun e => by have := Blk.lt H6.out; simp [Value.ownBlock] at e; omega : some b6 ≠ (Value.slice (some ⟨(World.heap U).size, 0, none⟩) 0 0).ownBlock)
            try have H6 := Lib.hid (Blk.below H6.out hbV (Blk.lt H6.out))
            clear hbV hbl
            refine hK.out _ _ trivial (fun hHeld => ?_)
            clear hK K
            refine WT.two (i := 4) (j := 6) rfl rfl (by decide) (by decide) (by kernel_rfl) (fun K hK => ?_) (fun K hK => ?_)
            focus
              refine step_app_at (by rfl) _ _ _ (by rfl) zb 3 i0' (.int .i64 0) 1 8 uInts hInf iz0 iz1 iz2 rfl (by omega) _ 0 [] (by rfl) HV.out ⟨g, 0, none⟩ j cap (natV (((rankL c i).drop 0).take j)) (by rfl) (natV_cut (by rw [HRL.out]; omega)) (HR.out.og.news 0 j 0 (fun _ => rfl)) (natV_one _) (by unfold maxLen; omega) (by omega) HR.out.hz ?_
              intro v4 w4 hown4 hgrow4 hat4
              simp only [Nat.zero_add, List.nil_append] at hown4
              have HR := Lib.hid (HR.out.app HV.out hgrow4)
              try have HN7 := Lib.hid (ne_at HN6.out (Blk.lt H6.out) hat4)
              try have H6 := Lib.hid (Blk.grown H6.out hgrow4 HN6.out)
              try have HN6 := HN7
              have HV := Lib.hid hown4
              clear hown4 hgrow4 hat4
              refine hK.out _ _ trivial (fun hHeld => ?_)
              clear hK K
              refine WT.one (i := 6) rfl (by decide) (by kernel_rfl) (fun K hK => ?_)
              go_simp
              refine gen_al (R := K) ?_
              intro V6 hbV hbl
              obtain ⟨b6, hb6⟩ : ∃ b, b = (World.heap w4).size := ⟨_, rfl⟩
              rw [← hb6] at hbl ⊢
              try have HN6 := Lib.hid (own_new HV.out)
              try rw [← hb6] at HN6
              try have HV := Lib.hid (own_stp HV.out hbV)
              have HR := Lib.hid (HR.out.step hbV)
              have H6 : Hid (Blk V6 b6 #[.int .i64 (i : Int)] 3) := Lib.hid hbl
              clear hbV hbl hb6
              refine hK.out _ _ trivial (fun hHeld => ?_)
              clear hK K
              refine WT.one (i := 7) rfl (by decide) (by kernel_rfl) (fun K hK => ?_)
              refine step_app_at (by rfl) _ _ _ (by rfl) zb 3 i0' (.int .i64 0) 1 8 uInts hInf iz0 iz1 iz2 rfl (by omega) _ j _ (by rfl) HV.out ⟨b6, 0, none⟩ 1 1 [.int .i64 (i : Int)] (by rfl) (by rfl) (World.news_of_block (cs := #[.int .i64 (i : Int)]) (t := 3) (fr := (0, 0)) H6.out) (by simp [Value.oneCell']) (by unfold maxLen; omega) (by omega) HR.out.hz ?_
              intro v7 w7 hown7 hgrow7 hat7
              have HR := Lib.hid (HR.out.app HV.out hgrow7)
              have HV := Lib.hid hown7
              clear hown7 hgrow7 hat7 H6 HN6
              refine hK.out _ _ trivial (fun hHeld => ?_)
              clear hK K
              refine WT.one (i := 11) rfl (by decide) (by kernel_rfl) (fun K hK => ?_)
              refine step_app_at (by rfl) _ _ _ (by rfl) zb 3 i0' (.int .i64 0) 1 8 uInts hInf iz0 iz1 iz2 rfl (by omega) _ (j + 1) _ (by rfl) HV.out ⟨g, so, none⟩ (i - j) (cap - j) (natV (((rankL c i).drop j).take (i - j))) (by rfl) (natV_cut (by rw [HRL.out]; omega)) (HR.out.og.news j (i - j) so (fun h => HSO.out (by rw [HRL.out] at h; omega))) (natV_one _) (by unfold maxLen; omega) (by omega) HR.out.hz ?_
              intro v8 w8 hown8 hgrow8 hat8
              rw [rank_ins hj HIJ.out] at hown8
              have HR := Lib.hid (HR.out.app HV.out hgrow8)
              have hn8 : j + 1 + (i - j) = i + 1 := by omega
              rw [hn8] at hown8
              obtain ⟨g8, cap8, rest8, hv8, hcap8, ho8⟩ := OrdB.of_own (by omega) hown8
              subst hv8
              have HO := Lib.hid ho8
              clear hown8 hgrow8 hat8 HV ho8 hn8
              refine hK.out _ _ trivial (fun hHeld => ?_)
              clear hK K
              refine WT.last (n := 12) rfl (by kernel_rfl) (by kernel_rfl) (fun K hK => ?_)
              go_simp
              refine hK.out _ _ ?_
              clear hK K
              refine NoPanic.normal ?_
              have HW := Lib.hid (HW1.out.trans (HUB.out.trans (HR.out.hb.mono HZB.out)))
              go_wp2_with fail
              refine ⟨⟨i + 1, g8, cap8, rest8, by omega, by simp, by go_num, hcap8, HO, HW⟩, ?_⟩
              simp [intOf]; omega
            focus
              go_simp
              refine gen_al (R := K) ?_
              intro V6 hbV hbl
              obtain ⟨b6, hb6⟩ : ∃ b, b = (World.heap V0).size := ⟨_, rfl⟩
              rw [← hb6] at hbl ⊢
              try have HN6 := Lib.hid (own_new HV.out)
              try rw [← hb6] at HN6
              try have HV := Lib.hid (own_stp HV.out hbV)
              have HR := Lib.hid (HR.out.step hbV)
              have H6 : Hid (Blk V6 b6 #[.int .i64 (i : Int)] 3) := Lib.hid hbl
              clear hbV hbl hb6
              refine hK.out _ _ trivial (fun hHeld => ?_)
              clear hK K
              refine WT.one (i := 4) rfl (by decide) (by kernel_rfl) (fun K hK => ?_)
              refine step_app_at (by rfl) _ _ _ (by rfl) zb 3 i0' (.int .i64 0) 1 8 uInts hInf iz0 iz1 iz2 rfl (by omega) _ 0 [] (by rfl) HV.out ⟨g, 0, none⟩ j cap (natV (((rankL c i).drop 0).take j)) (by rfl) (natV_cut (by rw [HRL.out]; omega)) (HR.out.og.news 0 j 0 (fun _ => rfl)) (natV_one _) (by unfold maxLen; omega) (by omega) HR.out.hz ?_
              intro v4 w4 hown4 hgrow4 hat4
              simp only [Nat.zero_add, List.nil_append] at hown4
              have HR := Lib.hid (HR.out.app HV.out hgrow4)
              try have HN7 := Lib.hid (ne_at HN6.out (Blk.lt H6.out) hat4)
              try have H6 := Lib.hid (Blk.grown H6.out hgrow4 HN6.out)
              try have HN6 := HN7
              have HV := Lib.hid hown4
              clear hown4 hgrow4 hat4
              refine hK.out _ _ trivial (fun hHeld => ?_)
              clear hK K
              refine WT.one (i := 7) rfl (by decide) (by kernel_rfl) (fun K hK => ?_)
              refine step_app_at (by rfl) _ _ _ (by rfl) zb 3 i0' (.int .i64 0) 1 8 uInts hInf iz0 iz1 iz2 rfl (by omega) _ j _ (by rfl) HV.out ⟨b6, 0, none⟩ 1 1 [.int .i64 (i : Int)] (by rfl) (by rfl) (World.news_of_block (cs := #[.int .i64 (i : Int)]) (t := 3) (fr := (0, 0)) H6.out) (by simp [Value.oneCell']) (by unfold maxLen; omega) (by omega) HR.out.hz ?_
              intro v7 w7 hown7 hgrow7 hat7
              have HR := Lib.hid (HR.out.app HV.out hgrow7)
              have HV := Lib.hid hown7
              clear hown7 hgrow7 hat7 H6 HN6
              refine hK.out _ _ trivial (fun hHeld => ?_)
              clear hK K
              refine WT.one (i := 11) rfl (by decide) (by kernel_rfl) (fun K hK => ?_)
              refine step_app_at (by rfl) _ _ _ (by rfl) zb 3 i0' (.int .i64 0) 1 8 uInts hInf iz0 iz1 iz2 rfl (by omega) _ (j + 1) _ (by rfl) HV.out ⟨g, so, none⟩ (i - j) (cap - j) (natV (((rankL c i).drop j).take (i - j))) (by rfl) (natV_cut (by rw [HRL.out]; omega)) (HR.out.og.news j (i - j) so (fun h => HSO.out (by rw [HRL.out] at h; omega))) (natV_one _) (by unfold maxLen; omega) (by omega) HR.out.hz ?_
              intro v8 w8 hown8 hgrow8 hat8
              rw [rank_ins hj HIJ.out] at hown8
              have HR := Lib.hid (HR.out.app HV.out hgrow8)
              have hn8 : j + 1 + (i - j) = i + 1 := by omega
              rw [hn8] at hown8
              obtain ⟨g8, cap8, rest8, hv8, hcap8, ho8⟩ := OrdB.of_own (by omega) hown8
              subst hv8
              have HO := Lib.hid ho8
              clear hown8 hgrow8 hat8 HV ho8 hn8
              refine hK.out _ _ trivial (fun hHeld => ?_)
              clear hK K
              refine WT.last (n := 12) rfl (by kernel_rfl) (by kernel_rfl) (fun K hK => ?_)
              go_simp
              refine hK.out _ _ ?_
              clear hK K
              refine NoPanic.normal ?_
              have HW := Lib.hid (HW1.out.trans (HUB.out.trans (HR.out.hb.mono HZB.out)))
              go_wp2_with fail
              refine ⟨⟨i + 1, g8, cap8, rest8, by omega, by simp, by go_num, hcap8, HO, HW⟩, ?_⟩
              simp [intOf]; omega
          focus
            go_simp
            refine gen_al (R := K) ?_
            intro V6 hbV hbl
            obtain ⟨b6, hb6⟩ : ∃ b, b = (World.heap U).size := ⟨_, rfl⟩
            rw [← hb6] at hbl ⊢
            try have HN6 := Lib.hid (own_new HV.out)
            try rw [← hb6] at HN6
            try have HV := Lib.hid (own_stp HV.out hbV)
            have HR := Lib.hid (HR.out.step hbV)
            have H6 : Hid (Blk V6 b6 #[.int .i64 (i : Int)] 3) := Lib.hid hbl
            clear hbV hbl hb6
            refine hK.out _ _ trivial (fun hHeld => ?_)
            clear hK K
            refine WT.one (i := 0) rfl (by decide) (by kernel_rfl) (fun K hK => ?_)
            go_simp
            refine gen_al (R := K) ?_
            intro V0 hbV hbl
            have HV := Lib.hid (own_empty (base := zb) hbl HR.out.hz)
            have HR := Lib.hid (HR.out.step hbV)
            try have HN6 := Lib.hid (fun e => by have := Blk.lt H6.out; simp [Value.ownBlock] at e; omega : some b6 ≠ (Value.slice (some ⟨(World.heap V6).size, 0, none⟩) 0 0).ownBlock)
            try have H6 := Lib.hid (Blk.below H6.out hbV (Blk.lt H6.out))
            clear hbV hbl
            refine hK.out _ _ trivial (fun hHeld => ?_)
            clear hK K
            refine WT.one (i := 4) rfl (by decide) (by kernel_rfl) (fun K hK => ?_)
            refine step_app_at (by rfl) _ _ _ (by rfl) zb 3 i0' (.int .i64 0) 1 8 uInts hInf iz0 iz1 iz2 rfl (by omega) _ 0 [] (by rfl) HV.out ⟨g, 0, none⟩ j cap (natV (((rankL c i).drop 0).take j)) (by rfl) (natV_cut (by rw [HRL.out]; omega)) (HR.out.og.news 0 j 0 (fun _ => rfl)) (natV_one _) (by unfold maxLen; omega) (by omega) HR.out.hz ?_
            intro v4 w4 hown4 hgrow4 hat4
            simp only [Nat.zero_add, List.nil_append] at hown4
            have HR := Lib.hid (HR.out.app HV.out hgrow4)
            try have HN7 := Lib.hid (ne_at HN6.out (Blk.lt H6.out) hat4)
            try have H6 := Lib.hid (Blk.grown H6.out hgrow4 HN6.out)
            try have HN6 := HN7
            have HV := Lib.hid hown4
            clear hown4 hgrow4 hat4
            refine hK.out _ _ trivial (fun hHeld => ?_)
            clear hK K
            refine WT.one (i := 7) rfl (by decide) (by kernel_rfl) (fun K hK => ?_)
            refine step_app_at (by rfl) _ _ _ (by rfl) zb 3 i0' (.int .i64 0) 1 8 uInts hInf iz0 iz1 iz2 rfl (by omega) _ j _ (by rfl) HV.out ⟨b6, 0, none⟩ 1 1 [.int .i64 (i : Int)] (by rfl) (by rfl) (World.news_of_block (cs := #[.int .i64 (i : Int)]) (t := 3) (fr := (0, 0)) H6.out) (by simp [Value.oneCell']) (by unfold maxLen; omega) (by omega) HR.out.hz ?_
            intro v7 w7 hown7 hgrow7 hat7
            have HR := Lib.hid (HR.out.app HV.out hgrow7)
            have HV := Lib.hid hown7
            clear hown7 hgrow7 hat7 H6 HN6
            refine hK.out _ _ trivial (fun hHeld => ?_)
            clear hK K
            refine WT.one (i := 11) rfl (by decide) (by kernel_rfl) (fun K hK => ?_)
            refine step_app_at (by rfl) _ _ _ (by rfl) zb 3 i0' (.int .i64 0) 1 8 uInts hInf iz0 iz1 iz2 rfl (by omega) _ (j + 1) _ (by rfl) HV.out ⟨g, so, none⟩ (i - j) (cap - j) (natV (((rankL c i).drop j).take (i - j))) (by rfl) (natV_cut (by rw [HRL.out]; omega)) (HR.out.og.news j (i - j) so (fun h => HSO.out (by rw [HRL.out] at h; omega))) (natV_one _) (by unfold maxLen; omega) (by omega) HR.out.hz ?_
            intro v8 w8 hown8 hgrow8 hat8
            rw [rank_ins hj HIJ.out] at hown8
            have HR := Lib.hid (HR.out.app HV.out hgrow8)
            have hn8 : j + 1 + (i - j) = i + 1 := by omega
            rw [hn8] at hown8
            obtain ⟨g8, cap8, rest8, hv8, hcap8, ho8⟩ := OrdB.of_own (by omega) hown8
            subst hv8
            have HO := Lib.hid ho8
            clear hown8 hgrow8 hat8 HV ho8 hn8
            refine hK.out _ _ trivial (fun hHeld => ?_)
            clear hK K
            refine WT.last (n := 12) rfl (by kernel_rfl) (by kernel_rfl) (fun K hK => ?_)
            go_simp
            refine hK.out _ _ ?_
            clear hK K
            refine NoPanic.normal ?_
            have HW := Lib.hid (HW1.out.trans (HUB.out.trans (HR.out.hb.mono HZB.out)))
            go_wp2_with fail
            refine ⟨⟨i + 1, g8, cap8, rest8, by omega, by simp, by go_num, hcap8, HO, HW⟩, ?_⟩
            simp [intOf]; omega
        · obtain ⟨k, hk⟩ : ∃ k, k = j - 1 := ⟨_, rfl⟩
          have HJK : Hid (j = k + 1) := Lib.hid (by omega)
          have dj : decide ((0 : Int) < (j : Int)) = true := decide_eq_true (by omega)
          have dj2 : decide (0 < j) = true := decide_eq_true (by omega)
          have hkr : k < (rankL c i).length := by rw [HRL.out]; omega
          obtain ⟨x2, -⟩ := HG.out.at_ (j := k) hkr
          obtain ⟨o, hoo⟩ : ∃ o, o = (rankL c i).getD k 0 := ⟨_, rfl⟩
          have hon : o < i := by
            have e3 : (rankL c i).getD k 0 = (rankL c i)[k] := by simp [hkr]
            have := HRB.out _ (List.getElem_mem hkr)
            rw [hoo, e3]; omega
          rw [← hoo] at x2
          obtain ⟨ab', ao', e', hblk', hcell'⟩ := HTP.out.at_ (k := o) (fun _ => rfl) (by omega : o < ms.length)
          obtain ⟨rfl, rfl⟩ : ab' = ab ∧ ao' = ao := (by injection e' with e'; injection e' with e1 e2; exact ⟨e1.symm, e2.symm⟩)
          have hz := HW.out.size
          have hbw : Below w.heap.size w wr := HW.out
          have c0 := (hbw.cell (p := ⟨ab', ao' + i * 3, none⟩) hblk).trans (hcell 0 _ rfl)
          have c1 := (hbw.cell (p := ⟨ab', ao' + i * 3 + 1, none⟩) hblk).trans (hcell 1 _ rfl)
          have c2 := (hbw.cell (p := ⟨ab', ao' + i * 3 + 2, none⟩) hblk).trans (hcell 2 _ rfl)
          have d0 := (hbw.cell (p := ⟨ab', ao' + o * 3, none⟩) hblk).trans (hcell' 0 _ rfl)
          have d1 := (hbw.cell (p := ⟨ab', ao' + o * 3 + 1, none⟩) hblk).trans (hcell' 1 _ rfl)
          have d2 := (hbw.cell (p := ⟨ab', ao' + o * 3 + 2, none⟩) hblk).trans (hcell' 2 _ rfl)
          have HCL := Lib.hid (fun W (hW : Below wr.heap.size wr W) => HCP.out o i (by omega) hlt W (hbw.trans (hW.mono hz)))
          have HFV : Hid (c ((rankL c i).getD k 0) i = decide (cv i o < 0)) := Lib.hid (by rw [HC.out, hoo])
          obtain ⟨x, hx⟩ : ∃ x, x = ms[i] := ⟨_, rfl⟩
          rw [← hx] at c0 c1 c2 HCL
          obtain ⟨y, hy⟩ : ∃ y, y = ms[o] := ⟨_, rfl⟩
          rw [← hy] at d0 d1 d2 HCL
          obtain ⟨v, hv⟩ : ∃ v, v = cv i o := ⟨_, rfl⟩
          rw [← hv] at HCL HFV
          have k0 : (0 : Int) ≤ (k : Int) := by omega
          have k1 : (k : Int) < (i : Int) := by omega
          have o0 : (0 : Int) ≤ (o : Int) := by omega
          have o1 : (o : Int) < (ms.length : Int) := by omega
          have kk : IntKind.i64.wrap ((j : Int) - 1) = (k : Int) := by rw [show (j : Int) - 1 = (k : Int) by omega]; exact IntWalk.i64_in _ ⟨by omega, by omega⟩
          have hb0 : Below wr.heap.size wr wr := Below.refl _ _
          have hgl := Blk.lt HG.out
          have hbl : ab' < wr.heap.size := by omega
          clear hx hy hv hoo hcell hcell' hblk hblk' e' hkr hbw hk hj0 hz HCP HTP
          by_cases hv0 : v < 0
          · have qv : decide (v < 0) = true := decide_eq_true hv0
            have HI2 : Hid (insAt (fun t => c ((rankL c i).getD t 0) i) i = insAt (fun t => c ((rankL c i).getD t 0) i) k) := Lib.hid (by
              rw [HIA.out, HJK.out]
              exact insAt_yes (f := fun t => c ((rankL c i).getD t 0) i) (by show c _ i = true; rw [HFV.out, qv]))
            clear hv0
            go_wp2
            (refine wp_region_ext (by kernel_rfl) (by kernel_rfl) ?_; (repeat (go_big_quiet_step((first | exact Calls.ext_of (HCL.out _ (bl_ext0 hb0 _)) | fail)))); with_reducible refine wpQuiet_nil ?_; intro w1 hw1; have hb1 := ext_below hw1; clear hw1)
            have HB2 : Hid (Below wo.heap.size wo w1) := Lib.hid (HB.out.trans (hb1.mono HB.out.size))
            clear hb1
            go_wp2
            refine ⟨⟨k, by have := HJK.out; omega, rfl, HI2, HB2⟩, ?_⟩
            have := HJK.out
            simp [intOf]; omega
          · have qv : decide (v < 0) = false := decide_eq_false hv0
            have HIJ : Hid (insAt (fun t => c ((rankL c i).getD t 0) i) i = j) := Lib.hid (by
              rw [HIA.out, HJK.out]
              exact insAt_no (f := fun t => c ((rankL c i).getD t 0) i) (by show c _ i = false; rw [HFV.out, qv]))
            clear hv0
            go_wp2
            (refine wp_region_ext (by kernel_rfl) (by kernel_rfl) ?_; (repeat (go_big_quiet_step((first | exact Calls.ext_of (HCL.out _ (bl_ext0 hb0 _)) | fail)))); with_reducible refine wpQuiet_nil ?_; intro w1 hw1; have hb1 := ext_below hw1; clear hw1)
            have HW1 : Hid (Below w.heap.size w w1) := Lib.hid (HW.out.trans (hb1.mono HW.out.size))
            have HG : Hid (OrdB w1 g (rankL c i) rest) := Lib.hid (Blk.below HG.out hb1 (Blk.lt HG.out))
            clear hb1 HW c0 c1 c2 d0 d1 d2 x2 HCL HFV qv
            have hgz := Blk.lt HG.out
            obtain ⟨zb, hzb⟩ : ∃ z, z = (World.heap w1).size := ⟨_, rfl⟩
            have hr0 : RrO (World.drew w1) zb g (rankL c i) rest (World.drew w1) := ⟨Blk.below HG.out (Below.refl _ _).drew (Blk.lt HG.out), by omega, Below.refl _ _, by rw [hzb]; exact ((Below.refl (World.heap w1).size w1).drew).size⟩
            have HR := Lib.hid hr0
            have HUB := Lib.hid ((Below.refl (World.heap w1).size w1).drew)
            have HZB : Hid (w.heap.size ≤ zb) := Lib.hid (by rw [hzb]; exact HW1.out.size)
            have HUB : Hid (Below w.heap.size w1 (World.drew w1)) := Lib.hid (HUB.out.mono HW1.out.size)
            obtain ⟨so, hso, hso2⟩ := cut_from g j cap
            have HSO := Lib.hid hso2
            clear hr0 hzb hso2 hgz
            go_wp2_with fail
            refine wp_region_noPanic ?_
            refine wp_region_T (S := fun _ => True) 12 (by kernel_rfl) (by kernel_rfl) (by kernel_rfl) (by kernel_rfl) (by decide) trivial (fun hHeld => ?_)
            generalize World.drew w1 = U at HR HUB ⊢
            refine WT.takeD (i := 1) (d := some 39) (v := ?v1q) rfl rfl (by decide) (by kernel_rfl) (by kernel_rfl) (fun _ _ _ h => h) (Or.inl ⟨by rfl, ?h1q⟩) (by assumption) ?r1q
            case h1q => (intro w hSw; (try dsimp only at hSw); go_simp; (try with_reducible rfl))
            try simp only [Act.put, List.setIfInBounds_toArray, List.set_cons_zero, List.set_cons_succ]
            refine WT.takeD (i := 2) (d := some 40) (v := ?v2q) rfl rfl (by decide) (by kernel_rfl) (by kernel_rfl) (fun _ _ _ h => h) (Or.inl ⟨by rfl, ?h2q⟩) (by assumption) ?r2q
            case h2q => (intro w hSw; (try dsimp only at hSw); go_simp; (try with_reducible rfl))
            try simp only [Act.put, List.setIfInBounds_toArray, List.set_cons_zero, List.set_cons_succ]
            refine WT.takeD (i := 3) (d := some 41) (v := .slice (some ⟨g, 0, none⟩) j cap) rfl rfl (by decide) (by kernel_rfl) (by kernel_rfl) (fun _ _ _ h => h) (Or.inl ⟨by rfl, ?hs3q⟩) (by assumption) ?rs3q
            case hs3q => (intro w _; go_simp; intro h9; exfalso; omega)
            try simp only [Act.put, List.setIfInBounds_toArray, List.set_cons_zero, List.set_cons_succ]
            refine WT.takeD (i := 5) (d := some 43) (v := ?v5q) rfl rfl (by decide) (by kernel_rfl) (by kernel_rfl) (fun _ _ _ h => h) (Or.inl ⟨by rfl, ?h5q⟩) (by assumption) ?r5q
            case h5q => (intro w hSw; (try dsimp only at hSw); go_simp; (try with_reducible rfl))
            try simp only [Act.put, List.setIfInBounds_toArray, List.set_cons_zero, List.set_cons_succ]
            refine WT.takeD (i := 8) (d := some 46) (v := ?v8q) rfl rfl (by decide) (by kernel_rfl) (by kernel_rfl) (fun _ _ _ h => h) (Or.inl ⟨by rfl, ?h8q⟩) (by assumption) ?r8q
            case h8q => (intro w hSw; (try dsimp only at hSw); go_simp; (try with_reducible rfl))
            try simp only [Act.put, List.setIfInBounds_toArray, List.set_cons_zero, List.set_cons_succ]
            refine WT.takeD (i := 9) (d := some 47) (v := ?v9q) rfl rfl (by decide) (by kernel_rfl) (by kernel_rfl) (fun _ _ _ h => h) (Or.inl ⟨by rfl, ?h9q⟩) (by assumption) ?r9q
            case h9q => (intro w hSw; (try dsimp only at hSw); go_simp; (try with_reducible rfl))
            try simp only [Act.put, List.setIfInBounds_toArray, List.set_cons_zero, List.set_cons_succ]
            refine WT.takeD (i := 10) (d := some 48) (v := .slice (some ⟨g, so, none⟩) (i - j) (cap - j)) rfl rfl (by decide) (by kernel_rfl) (by kernel_rfl) (fun _ _ _ h => h) (Or.inl ⟨by rfl, ?hs10q⟩) (by assumption) ?rs10q
            case hs10q => (intro w _; go_simp; (try exact hso))
            try simp only [Act.put, List.setIfInBounds_toArray, List.set_cons_zero, List.set_cons_succ]
            clear hso
            refine WT.two (i := 0) (j := 6) rfl rfl (by decide) (by decide) (by kernel_rfl) (fun K hK => ?_) (fun K hK => ?_)
            focus
              go_simp
              refine gen_al (R := K) ?_
              intro V0 hbV hbl
              have HV := Lib.hid (own_empty (base := zb) hbl HR.out.hz)
              have HR := Lib.hid (HR.out.step hbV)
              try have HN6 := Lib.hid (fun e => by have := Blk.lt H6.out; simp [Value.ownBlock] at e; omega : some b6 ≠ (Value.slice (some ⟨(World.heap U).size, 0, none⟩) 0 0).ownBlock)
              try have H6 := Lib.hid (Blk.below H6.out hbV (Blk.lt H6.out))
              clear hbV hbl
              refine hK.out _ _ trivial (fun hHeld => ?_)
              clear hK K
              refine WT.two (i := 4) (j := 6) rfl rfl (by decide) (by decide) (by kernel_rfl) (fun K hK => ?_) (fun K hK => ?_)
              focus
                refine step_app_at (by rfl) _ _ _ (by rfl) zb 3 i0' (.int .i64 0) 1 8 uInts hInf iz0 iz1 iz2 rfl (by omega) _ 0 [] (by rfl) HV.out ⟨g, 0, none⟩ j cap (natV (((rankL c i).drop 0).take j)) (by rfl) (natV_cut (by rw [HRL.out]; omega)) (HR.out.og.news 0 j 0 (fun _ => rfl)) (natV_one _) (by unfold maxLen; omega) (by omega) HR.out.hz ?_
                intro v4 w4 hown4 hgrow4 hat4
                simp only [Nat.zero_add, List.nil_append] at hown4
                have HR := Lib.hid (HR.out.app HV.out hgrow4)
                try have HN7 := Lib.hid (ne_at HN6.out (Blk.lt H6.out) hat4)
                try have H6 := Lib.hid (Blk.grown H6.out hgrow4 HN6.out)
                try have HN6 := HN7
                have HV := Lib.hid hown4
                clear hown4 hgrow4 hat4
                refine hK.out _ _ trivial (fun hHeld => ?_)
                clear hK K
                refine WT.one (i := 6) rfl (by decide) (by kernel_rfl) (fun K hK => ?_)
                go_simp
                refine gen_al (R := K) ?_
                intro V6 hbV hbl
                obtain ⟨b6, hb6⟩ : ∃ b, b = (World.heap w4).size := ⟨_, rfl⟩
                rw [← hb6] at hbl ⊢
                try have HN6 := Lib.hid (own_new HV.out)
                try rw [← hb6] at HN6
                try have HV := Lib.hid (own_stp HV.out hbV)
                have HR := Lib.hid (HR.out.step hbV)
                have H6 : Hid (Blk V6 b6 #[.int .i64 (i : Int)] 3) := Lib.hid hbl
                clear hbV hbl hb6
                refine hK.out _ _ trivial (fun hHeld => ?_)
                clear hK K
                refine WT.one (i := 7) rfl (by decide) (by kernel_rfl) (fun K hK => ?_)
                refine step_app_at (by rfl) _ _ _ (by rfl) zb 3 i0' (.int .i64 0) 1 8 uInts hInf iz0 iz1 iz2 rfl (by omega) _ j _ (by rfl) HV.out ⟨b6, 0, none⟩ 1 1 [.int .i64 (i : Int)] (by rfl) (by rfl) (World.news_of_block (cs := #[.int .i64 (i : Int)]) (t := 3) (fr := (0, 0)) H6.out) (by simp [Value.oneCell']) (by unfold maxLen; omega) (by omega) HR.out.hz ?_
                intro v7 w7 hown7 hgrow7 hat7
                have HR := Lib.hid (HR.out.app HV.out hgrow7)
                have HV := Lib.hid hown7
                clear hown7 hgrow7 hat7 H6 HN6
                refine hK.out _ _ trivial (fun hHeld => ?_)
                clear hK K
                refine WT.one (i := 11) rfl (by decide) (by kernel_rfl) (fun K hK => ?_)
                refine step_app_at (by rfl) _ _ _ (by rfl) zb 3 i0' (.int .i64 0) 1 8 uInts hInf iz0 iz1 iz2 rfl (by omega) _ (j + 1) _ (by rfl) HV.out ⟨g, so, none⟩ (i - j) (cap - j) (natV (((rankL c i).drop j).take (i - j))) (by rfl) (natV_cut (by rw [HRL.out]; omega)) (HR.out.og.news j (i - j) so (fun h => HSO.out (by rw [HRL.out] at h; omega))) (natV_one _) (by unfold maxLen; omega) (by omega) HR.out.hz ?_
                intro v8 w8 hown8 hgrow8 hat8
                rw [rank_ins hj HIJ.out] at hown8
                have HR := Lib.hid (HR.out.app HV.out hgrow8)
                have hn8 : j + 1 + (i - j) = i + 1 := by omega
                rw [hn8] at hown8
                obtain ⟨g8, cap8, rest8, hv8, hcap8, ho8⟩ := OrdB.of_own (by omega) hown8
                subst hv8
                have HO := Lib.hid ho8
                clear hown8 hgrow8 hat8 HV ho8 hn8
                refine hK.out _ _ trivial (fun hHeld => ?_)
                clear hK K
                refine WT.last (n := 12) rfl (by kernel_rfl) (by kernel_rfl) (fun K hK => ?_)
                go_simp
                refine hK.out _ _ ?_
                clear hK K
                refine NoPanic.normal ?_
                have HW := Lib.hid (HW1.out.trans (HUB.out.trans (HR.out.hb.mono HZB.out)))
                go_wp2_with fail
                refine ⟨⟨i + 1, g8, cap8, rest8, by omega, by simp, by go_num, hcap8, HO, HW⟩, ?_⟩
                simp [intOf]; omega
              focus
                go_simp
                refine gen_al (R := K) ?_
                intro V6 hbV hbl
                obtain ⟨b6, hb6⟩ : ∃ b, b = (World.heap V0).size := ⟨_, rfl⟩
                rw [← hb6] at hbl ⊢
                try have HN6 := Lib.hid (own_new HV.out)
                try rw [← hb6] at HN6
                try have HV := Lib.hid (own_stp HV.out hbV)
                have HR := Lib.hid (HR.out.step hbV)
                have H6 : Hid (Blk V6 b6 #[.int .i64 (i : Int)] 3) := Lib.hid hbl
                clear hbV hbl hb6
                refine hK.out _ _ trivial (fun hHeld => ?_)
                clear hK K
                refine WT.one (i := 4) rfl (by decide) (by kernel_rfl) (fun K hK => ?_)
                refine step_app_at (by rfl) _ _ _ (by rfl) zb 3 i0' (.int .i64 0) 1 8 uInts hInf iz0 iz1 iz2 rfl (by omega) _ 0 [] (by rfl) HV.out ⟨g, 0, none⟩ j cap (natV (((rankL c i).drop 0).take j)) (by rfl) (natV_cut (by rw [HRL.out]; omega)) (HR.out.og.news 0 j 0 (fun _ => rfl)) (natV_one _) (by unfold maxLen; omega) (by omega) HR.out.hz ?_
                intro v4 w4 hown4 hgrow4 hat4
                simp only [Nat.zero_add, List.nil_append] at hown4
                have HR := Lib.hid (HR.out.app HV.out hgrow4)
                try have HN7 := Lib.hid (ne_at HN6.out (Blk.lt H6.out) hat4)
                try have H6 := Lib.hid (Blk.grown H6.out hgrow4 HN6.out)
                try have HN6 := HN7
                have HV := Lib.hid hown4
                clear hown4 hgrow4 hat4
                refine hK.out _ _ trivial (fun hHeld => ?_)
                clear hK K
                refine WT.one (i := 7) rfl (by decide) (by kernel_rfl) (fun K hK => ?_)
                refine step_app_at (by rfl) _ _ _ (by rfl) zb 3 i0' (.int .i64 0) 1 8 uInts hInf iz0 iz1 iz2 rfl (by omega) _ j _ (by rfl) HV.out ⟨b6, 0, none⟩ 1 1 [.int .i64 (i : Int)] (by rfl) (by rfl) (World.news_of_block (cs := #[.int .i64 (i : Int)]) (t := 3) (fr := (0, 0)) H6.out) (by simp [Value.oneCell']) (by unfold maxLen; omega) (by omega) HR.out.hz ?_
                intro v7 w7 hown7 hgrow7 hat7
                have HR := Lib.hid (HR.out.app HV.out hgrow7)
                have HV := Lib.hid hown7
                clear hown7 hgrow7 hat7 H6 HN6
                refine hK.out _ _ trivial (fun hHeld => ?_)
                clear hK K
                refine WT.one (i := 11) rfl (by decide) (by kernel_rfl) (fun K hK => ?_)
                refine step_app_at (by rfl) _ _ _ (by rfl) zb 3 i0' (.int .i64 0) 1 8 uInts hInf iz0 iz1 iz2 rfl (by omega) _ (j + 1) _ (by rfl) HV.out ⟨g, so, none⟩ (i - j) (cap - j) (natV (((rankL c i).drop j).take (i - j))) (by rfl) (natV_cut (by rw [HRL.out]; omega)) (HR.out.og.news j (i - j) so (fun h => HSO.out (by rw [HRL.out] at h; omega))) (natV_one _) (by unfold maxLen; omega) (by omega) HR.out.hz ?_
                intro v8 w8 hown8 hgrow8 hat8
                rw [rank_ins hj HIJ.out] at hown8
                have HR := Lib.hid (HR.out.app HV.out hgrow8)
                have hn8 : j + 1 + (i - j) = i + 1 := by omega
                rw [hn8] at hown8
                obtain ⟨g8, cap8, rest8, hv8, hcap8, ho8⟩ := OrdB.of_own (by omega) hown8
                subst hv8
                have HO := Lib.hid ho8
                clear hown8 hgrow8 hat8 HV ho8 hn8
                refine hK.out _ _ trivial (fun hHeld => ?_)
                clear hK K
                refine WT.last (n := 12) rfl (by kernel_rfl) (by kernel_rfl) (fun K hK => ?_)
                go_simp
                refine hK.out _ _ ?_
                clear hK K
                refine NoPanic.normal ?_
                have HW := Lib.hid (HW1.out.trans (HUB.out.trans (HR.out.hb.mono HZB.out)))
                go_wp2_with fail
                refine ⟨⟨i + 1, g8, cap8, rest8, by omega, by simp, by go_num, hcap8, HO, HW⟩, ?_⟩
                simp [intOf]; omega
            focus
              go_simp
              refine gen_al (R := K) ?_
              intro V6 hbV hbl
              obtain ⟨b6, hb6⟩ : ∃ b, b = (World.heap U).size := ⟨_, rfl⟩
              rw [← hb6] at hbl ⊢
              try have HN6 := Lib.hid (own_new HV.out)
              try rw [← hb6] at HN6
              try have HV := Lib.hid (own_stp HV.out hbV)
              have HR := Lib.hid (HR.out.step hbV)
              have H6 : Hid (Blk V6 b6 #[.int .i64 (i : Int)] 3) := Lib.hid hbl
              clear hbV hbl hb6
              refine hK.out _ _ trivial (fun hHeld => ?_)
              clear hK K
              refine WT.one (i := 0) rfl (by decide) (by kernel_rfl) (fun K hK => ?_)
              go_simp
              refine gen_al (R := K) ?_
              intro V0 hbV hbl
              have HV := Lib.hid (own_empty (base := zb) hbl HR.out.hz)
              have HR := Lib.hid (HR.out.step hbV)
              try have HN6 := Lib.hid (fun e => by have := Blk.lt H6.out; simp [Value.ownBlock] at e; omega : some b6 ≠ (Value.slice (some ⟨(World.heap V6).size, 0, none⟩) 0 0).ownBlock)
              try have H6 := Lib.hid (Blk.below H6.out hbV (Blk.lt H6.out))
              clear hbV hbl
              refine hK.out _ _ trivial (fun hHeld => ?_)
              clear hK K
              refine WT.one (i := 4) rfl (by decide) (by kernel_rfl) (fun K hK => ?_)
              refine step_app_at (by rfl) _ _ _ (by rfl) zb 3 i0' (.int .i64 0) 1 8 uInts hInf iz0 iz1 iz2 rfl (by omega) _ 0 [] (by rfl) HV.out ⟨g, 0, none⟩ j cap (natV (((rankL c i).drop 0).take j)) (by rfl) (natV_cut (by rw [HRL.out]; omega)) (HR.out.og.news 0 j 0 (fun _ => rfl)) (natV_one _) (by unfold maxLen; omega) (by omega) HR.out.hz ?_
              intro v4 w4 hown4 hgrow4 hat4
              simp only [Nat.zero_add, List.nil_append] at hown4
              have HR := Lib.hid (HR.out.app HV.out hgrow4)
              try have HN7 := Lib.hid (ne_at HN6.out (Blk.lt H6.out) hat4)
              try have H6 := Lib.hid (Blk.grown H6.out hgrow4 HN6.out)
              try have HN6 := HN7
              have HV := Lib.hid hown4
              clear hown4 hgrow4 hat4
              refine hK.out _ _ trivial (fun hHeld => ?_)
              clear hK K
              refine WT.one (i := 7) rfl (by decide) (by kernel_rfl) (fun K hK => ?_)
              refine step_app_at (by rfl) _ _ _ (by rfl) zb 3 i0' (.int .i64 0) 1 8 uInts hInf iz0 iz1 iz2 rfl (by omega) _ j _ (by rfl) HV.out ⟨b6, 0, none⟩ 1 1 [.int .i64 (i : Int)] (by rfl) (by rfl) (World.news_of_block (cs := #[.int .i64 (i : Int)]) (t := 3) (fr := (0, 0)) H6.out) (by simp [Value.oneCell']) (by unfold maxLen; omega) (by omega) HR.out.hz ?_
              intro v7 w7 hown7 hgrow7 hat7
              have HR := Lib.hid (HR.out.app HV.out hgrow7)
              have HV := Lib.hid hown7
              clear hown7 hgrow7 hat7 H6 HN6
              refine hK.out _ _ trivial (fun hHeld => ?_)
              clear hK K
              refine WT.one (i := 11) rfl (by decide) (by kernel_rfl) (fun K hK => ?_)
              refine step_app_at (by rfl) _ _ _ (by rfl) zb 3 i0' (.int .i64 0) 1 8 uInts hInf iz0 iz1 iz2 rfl (by omega) _ (j + 1) _ (by rfl) HV.out ⟨g, so, none⟩ (i - j) (cap - j) (natV (((rankL c i).drop j).take (i - j))) (by rfl) (natV_cut (by rw [HRL.out]; omega)) (HR.out.og.news j (i - j) so (fun h => HSO.out (by rw [HRL.out] at h; omega))) (natV_one _) (by unfold maxLen; omega) (by omega) HR.out.hz ?_
              intro v8 w8 hown8 hgrow8 hat8
              rw [rank_ins hj HIJ.out] at hown8
              have HR := Lib.hid (HR.out.app HV.out hgrow8)
              have hn8 : j + 1 + (i - j) = i + 1 := by omega
              rw [hn8] at hown8
              obtain ⟨g8, cap8, rest8, hv8, hcap8, ho8⟩ := OrdB.of_own (by omega) hown8
              subst hv8
              have HO := Lib.hid ho8
              clear hown8 hgrow8 hat8 HV ho8 hn8
              refine hK.out _ _ trivial (fun hHeld => ?_)
              clear hK K
              refine WT.last (n := 12) rfl (by kernel_rfl) (by kernel_rfl) (fun K hK => ?_)
              go_simp
              refine hK.out _ _ ?_
              clear hK K
              refine NoPanic.normal ?_
              have HW := Lib.hid (HW1.out.trans (HUB.out.trans (HR.out.hb.mono HZB.out)))
              go_wp2_with fail
              refine ⟨⟨i + 1, g8, cap8, rest8, by omega, by simp, by go_num, hcap8, HO, HW⟩, ?_⟩
              simp [intOf]; omega
    · obtain rfl : i = ms.length := by omega
      have HR2 : Hid (RL.length = ms.length) := Lib.hid (by rw [HRV.out, List.length_map, rankL_len])
      have HS := Lib.hid HG.out.sl
      rw [← HRV.out] at HS
      clear HTP HCP HG
      go_wp2
      refine bodyPost_ret (v := .slice (some ⟨g, 0, none⟩) ms.length cap) (by simp [results, Try.results38, go_sem]) rfl ⟨_, cap, by rw [HR2.out], HS.out, HW.out⟩
end Go.Proofs.Ytiikkcifdhcejaa

/- habit, references: Factors, Compare. -/
import Derived.Test.YtiikkcifdhcejaaUg
import Derived.Test.YtiikkcifdhcejaaWo
import Derived.Test.YtiikkcifdhcejaaZ30PyA
import Derived.Test.YtiikkcifdhcejaaZ03Pd
import Derived.Test.YtiikkcifdhcejaaWp
namespace Go.Proofs.Ytiikkcifdhcejaa
open Go.RowKit

theorem ovL_take {m : HMd} {l : List Int} {i : Nat} (hi : i < l.length) : (ovL m l).take (i + 1) = (ovL m l).take i ++ [(wtI m l i).1] := by
  rw [List.take_succ_eq_append_getElem (by rw [ovL_len]; exact hi)]; simp [ovL]
theorem unL_take {m : HMd} {l : List Int} {i : Nat} (hi : i < l.length) : (unL m l).take (i + 1) = (unL m l).take i ++ [(wtI m l i).2] := by
  rw [List.take_succ_eq_append_getElem (by rw [unL_len]; exact hi)]; simp [unL]
theorem ovL_take_all (m : HMd) (l : List Int) : (ovL m l).take l.length = ovL m l := by rw [← ovL_len m l, List.take_length]
theorem unL_take_all (m : HMd) (l : List Int) : (unL m l).take l.length = unL m l := by rw [← unL_len m l, List.take_length]
/-- two rows of one's own lie apart -/
def Apart (v v' : Value) : Prop := ∀ g g', v.ownBlock = some g → v'.ownBlock = some g' → g ≠ g'
theorem Apart.or {v v' : Value} (h : Apart v v') : v.ownBlock = none ∨ v.ownBlock ≠ v'.ownBlock := by
  cases hv : v.ownBlock with
  | none => exact .inl rfl
  | some g => exact .inr fun e => h g g hv e.symm rfl
theorem Apart.symm {v v' : Value} (h : Apart v v') : Apart v' v := fun g g' h1 h2 e => h g' g h2 h1 e.symm
theorem Apart.step {v v2 v' : Value} {n : Nat} (h : Apart v v') (h1 : v2.ownBlock = v.ownBlock ∨ v2.ownBlock = some n) (h2 : ∀ g, v'.ownBlock = some g → g < n) : Apart v2 v' := fun g g' e1 e2 => by
  rcases h1 with h1 | h1
  · exact h g g' (h1.symm.trans e1) e2
  · rw [h1] at e1
    have := Option.some.inj e1
    have := h2 g' e2
    omega
theorem own_some {w : World} {b : Nat} {e : TypeId} {size n c : Nat} {A : Option Addr} {xs : List Value} (h : w.ownsRow b e size (.slice A (n + 1) c) (n + 1) xs) : A ≠ none := fun ha => by
  rcases h.2 with ⟨_, h1⟩ | ⟨g, cap, cur, h1, _⟩
  · omega
  · rw [ha] at h1; cases h1
/-- the factors of a register are returned -/
def RetFacs (m : HMd) (l : List Int) (w : World) (e : Ending) (w' : World) : Prop :=
  ∃ (A1 : Option Addr) (c1 : Nat) (A2 : Option Addr) (c2 : Nat), e = .returned (.tuple #[.slice A1 l.length c1, .slice A2 l.length c2]) ∧
    w'.ownsRow w.heap.size 3 1 (.slice A1 l.length c1) l.length ((ovL m l).map (Value.int .i64)) ∧ w'.ownsRow w.heap.size 3 1 (.slice A2 l.length c2) l.length ((unL m l).map (Value.int .i64)) ∧ Apart (.slice A1 l.length c1) (.slice A2 l.length c2) ∧ A1 ≠ none ∧ A2 ≠ none ∧ Below w.heap.size w w'
set_option maxRecDepth 100000 in
set_option maxHeartbeats 4000000 in
theorem rfactors_any (x : Md) (lA : Option Addr) (lc : Nat) (l : List Int) (w : World) (hmod : ModOk x.m) (hreg : regB x.m.outs l) (hl : l.length ≤ 1000) (hx : x.reads w w.heap.size) (hr : Sl intCell 1 w w.heap.size lA l) :
    Calls Try.prog 48 #[.agg #[.int .i64 x.kind, .slice x.a x.rows.length x.c, .int .i64 x.after], .slice lA l.length lc] w (RetFacs x.m l w) := by
  obtain ⟨i0', hInf, iz0, iz1, iz2⟩ := info_parts infoInt
  have HWT := Lib.hid (fun k (hk : k < l.length) W (hW : Below w.heap.size w W) => rweight_of x lA lc l k W hmod hreg hk (by omega) ((hx.below hW).more hW.size) ((hr.below hW).more hW.size))
  clear hmod hreg hx hr
  obtain ⟨m, hm⟩ : ∃ m, m = x.m := ⟨_, rfl⟩
  rw [← hm] at HWT ⊢
  clear hm
  go_enter Try.func48, Try.ntmps48
  go_wp2_with fail
  obtain ⟨z, hz⟩ : ∃ z, z = w.heap.size := ⟨_, rfl⟩
  rw [← hz]
  refine gen_w (fun W => Blk W z #[.int .i64 x.kind, .slice x.a x.rows.length x.c, .int .i64 x.after] 25 ∧ Blk W (z + 1) #[] 3 ∧ Blk W (z + 1 + 1) #[] 3 ∧ Below w.heap.size w W) ⟨((Blk.at_ hz).alloc _).alloc _, (Blk.at_ (by simp [hz])).alloc _, Blk.at_ (by simp [hz]), by (repeat (first | exact Below.refl _ _ | assumption | (refine Below.alloc ?_ (by first | omega | (simp; omega) | (simp; done)) _) | (refine Below.setCell ?_ (by first | omega | (simp; omega) | (simp; done)) _) | (refine Below.drew ?_) | (refine belowN ?_ _) | (refine Below.trans ?_ (Below.mono ‹Below _ _ _› (by first | omega | (simp; omega) | (simp; done))))))⟩ ?_
  rintro V ⟨g0, g1, g2, hV⟩
  have own0 : ∀ b, w.heap.size ≤ b → Blk V b #[] 3 → V.ownsRow w.heap.size 3 1 (.slice (some ⟨b, 0, none⟩) 0 0) 0 [] := fun b hb h => ⟨by simp, .inr ⟨b, 0, #[], rfl, hb, h, by omega, by unfold maxLen; omega, by simp, by simp⟩⟩
  have HO1 := Lib.hid (own0 (z + 1) (by omega) g1)
  have HO2 := Lib.hid (own0 (z + 1 + 1) (by omega) g2)
  have HAP : Hid (Apart (.slice (some ⟨z + 1, 0, none⟩) 0 0) (.slice (some ⟨z + 1 + 1, 0, none⟩) 0 0)) := Lib.hid fun g g' h1 h2 => by
    simp [Value.ownBlock] at h1 h2
    omega
  have HV := Lib.hid hV; have HG0 := Lib.hid g0
  have hzw : w.heap.size = z := hz.symm
  clear g0 g1 g2 own0 hV hz
  go_loopw [6, 7, 8] (fun ov un iv W => ∃ (i : Nat) (A1 : Option Addr) (c1 : Nat) (A2 : Option Addr) (c2 : Nat), i ≤ l.length ∧ iv = .int .i64 (i : Int) ∧ ov = .slice A1 i c1 ∧ un = .slice A2 i c2 ∧ Hid (W.ownsRow w.heap.size 3 1 (.slice A1 i c1) i (((ovL m l).take i).map (Value.int .i64))) ∧ Hid (W.ownsRow w.heap.size 3 1 (.slice A2 i c2) i (((unL m l).take i).map (Value.int .i64))) ∧ Hid (Apart (.slice A1 i c1) (.slice A2 i c2)) ∧ Hid (∀ g, (Value.slice A1 i c1).ownBlock = some g → z < g) ∧ Hid (∀ g, (Value.slice A2 i c2).ownBlock = some g → z < g) ∧ Hid (A1 ≠ none ∧ A2 ≠ none) ∧ Blk W z #[.int .i64 x.kind, .slice x.a x.rows.length x.c, .int .i64 x.after] 25 ∧ Below w.heap.size w W) (fun _ _ iv _ => l.length - (intOf iv).toNat)
  case atStart =>
    refine ⟨0, _, _, _, _, by omega, rfl, rfl, rfl, by simpa using HO1, by simpa using HO2, HAP, Lib.hid fun g h => ?_, Lib.hid fun g h => ?_, Lib.hid ⟨by simp, by simp⟩, HG0.out, HV.out⟩
    · simp [Value.ownBlock] at h; omega
    · simp [Value.ownBlock] at h; omega
  case round =>
    clear HO1 HO2 HAP HG0 HV
    obtain ⟨i, A1, c1, A2, c2, hi, rfl, rfl, rfl, HO1, HO2, HAP, HZ1, HZ2, HNN, g0, hw⟩ := hrel
    have d0 := g0.cell 0; have d1 := g0.cell 1; have d2 := g0.cell 2
    simp at d0 d1 d2
    by_cases hlt : i < l.length
    · have HW := HWT.out i hlt
      obtain ⟨wt, hwt⟩ : ∃ q, q = (wtI m l i).1 := ⟨_, rfl⟩
      obtain ⟨sm, hsm⟩ : ∃ q, q = (wtI m l i).2 := ⟨_, rfl⟩
      have HT1 := Lib.hid (ovL_take (m := m) hlt)
      have HT2 := Lib.hid (unL_take (m := m) hlt)
      rw [← hwt] at HW HT1
      rw [← hsm] at HW HT2
      have HWH := Lib.hid HW
      have i0 : (0 : Int) ≤ (i : Int) := by omega
      have i1 : (i : Int) < (l.length : Int) := by omega
      have hgl := g0.lt
      clear HW hwt hsm
      go_upto_region 6 with (first | (go_at_call 51; refine (HWH.out _ (by (repeat (first | exact Below.refl _ _ | assumption | (refine Below.alloc ?_ (by first | omega | (simp; omega) | (simp; done)) _) | (refine Below.setCell ?_ (by first | omega | (simp; omega) | (simp; done)) _) | (refine Below.drew ?_) | (refine belowN ?_ _) | (refine Below.trans ?_ (Below.mono ‹Below _ _ _› (by first | omega | (simp; omega) | (simp; done)))))))).mono ?_; rintro _ w1 ⟨rfl, hb1⟩) | fail)
      have hw1 := bl2 hw hb1
      have HO1 := Lib.hid (own_stp HO1.out hb1)
      have HO2 := Lib.hid (own_stp HO2.out hb1)
      have g1 := g0.below hb1 hgl
      have hz1 := hw1.size
      have hzz : z < w1.heap.size := g1.lt
      clear hb1 hw g0 d0 d1 d2
      go_wp2_with (first | (at_builtin; refine wpList_append_own_at _ rfl _ _ 30 rfl w.heap.size 3 i0' (.int .i64 0) 1 8 uInts hInf iz0 iz1 iz2 rfl (by decide) _ _ _ rfl (HO1.out.alloc _) ⟨w1.heap.size, 0, none⟩ 1 1 [.int .i64 wt] rfl rfl (cell_one_new _ _ _) (by simp [Value.oneCell']) (by unfold maxLen; omega) (by omega) (by simp; omega) ?_; intro v' w3 hown3 hgrow3 _ hat3; refine Hid.out ?_) | fail)
      obtain ⟨A1', c1', rfl⟩ := ownSl hown3
      have hat3 : (Value.slice A1' (i + 1) c1').ownBlock = (Value.slice A1 i c1).ownBlock ∨ (Value.slice A1' (i + 1) c1').ownBlock = some (w1.alloc (.cells #[.int .i64 wt] 3)).heap.size := hat3
      have HL2 : ∀ g, (Value.slice A2 i c2).ownBlock = some g → g < (w1.alloc (.cells #[.int .i64 wt] 3)).heap.size := fun g hg => ((HO2.out.alloc (.cells #[.int .i64 wt] 3)).lt g hg).2
      have HAP1 : Hid (Apart (.slice A1' (i + 1) c1') (.slice A2 i c2)) := Lib.hid (HAP.out.step hat3 HL2)
      have HO2 : Hid (w3.ownsRow w.heap.size 3 1 (.slice A2 i c2) i (((unL m l).take i).map (Value.int .i64))) := Lib.hid ((HO2.out.alloc (.cells #[.int .i64 wt] 3)).kept hgrow3 HAP.out.symm.or)
      have HZ3 : Hid (∀ g, (Value.slice A1' (i + 1) c1').ownBlock = some g → z < g) := Lib.hid fun g hg => by
        rcases hat3 with h | h
        · exact HZ1.out g (h.symm.trans hg)
        · rw [h] at hg
          have h9 := Option.some.inj hg
          simp at h9
          omega
      have hn1 : some z ≠ (Value.slice A1 i c1).ownBlock := fun e => by have := HZ1.out z e.symm; omega
      have g3 : Blk w3 z #[.int .i64 x.kind, .slice x.a x.rows.length x.c, .int .i64 x.after] 25 := (g1.alloc (.cells #[.int .i64 wt] 3)).grown hgrow3 hn1
      have hw3 : Below w.heap.size w w3 := (hw1.alloc hz1 _).grown hgrow3 (by simp; omega) (fun g hg => by have := HZ1.out g hg; omega)
      have hz3 := hw3.size
      have hzz3 : z < w3.heap.size := g3.lt
      have HO3 := Lib.hid hown3
      clear hown3 hgrow3 hat3 HL2 HO1 HAP hn1 g1 hw1
      refine Lib.hid ?_
      go_wp2_with (first | (at_builtin; refine wpList_append_own_at _ rfl _ _ 30 rfl w.heap.size 3 i0' (.int .i64 0) 1 8 uInts hInf iz0 iz1 iz2 rfl (by decide) _ _ _ rfl (HO2.out.alloc _) ⟨w3.heap.size, 0, none⟩ 1 1 [.int .i64 sm] rfl rfl (cell_one_new _ _ _) (by simp [Value.oneCell']) (by unfold maxLen; omega) (by omega) (by simp; omega) ?_; intro v' w5 hown5 hgrow5 _ hat5; refine Hid.out ?_) | fail)
      obtain ⟨A2', c2', rfl⟩ := ownSl hown5
      have hat5 : (Value.slice A2' (i + 1) c2').ownBlock = (Value.slice A2 i c2).ownBlock ∨ (Value.slice A2' (i + 1) c2').ownBlock = some (w3.alloc (.cells #[.int .i64 sm] 3)).heap.size := hat5
      have HL1 : ∀ g, (Value.slice A1' (i + 1) c1').ownBlock = some g → g < (w3.alloc (.cells #[.int .i64 sm] 3)).heap.size := fun g hg => ((HO3.out.alloc (.cells #[.int .i64 sm] 3)).lt g hg).2
      have HAP2 : Hid (Apart (.slice A1' (i + 1) c1') (.slice A2' (i + 1) c2')) := Lib.hid (HAP1.out.symm.step hat5 HL1).symm
      have HO5 : Hid (w5.ownsRow w.heap.size 3 1 (.slice A1' (i + 1) c1') (i + 1) (((ovL m l).take i).map (Value.int .i64) ++ [.int .i64 wt])) := Lib.hid ((HO3.out.alloc (.cells #[.int .i64 sm] 3)).kept hgrow5 HAP1.out.or)
      have HZ5 : Hid (∀ g, (Value.slice A2' (i + 1) c2').ownBlock = some g → z < g) := Lib.hid fun g hg => by
        rcases hat5 with h | h
        · exact HZ2.out g (h.symm.trans hg)
        · rw [h] at hg
          have h9 := Option.some.inj hg
          simp at h9
          omega
      have hn2 : some z ≠ (Value.slice A2 i c2).ownBlock := fun e => by have := HZ2.out z e.symm; omega
      have g5 : Blk w5 z #[.int .i64 x.kind, .slice x.a x.rows.length x.c, .int .i64 x.after] 25 := (g3.alloc (.cells #[.int .i64 sm] 3)).grown hgrow5 hn2
      have hw5 : Below w.heap.size w w5 := (hw3.alloc hz3 _).grown hgrow5 (by simp; omega) (fun g hg => by have := HZ2.out g hg; omega)
      have HO6 := Lib.hid hown5
      clear hown5 hgrow5 hat5 HL1 hn2 g3 hw3
      refine Lib.hid ?_
      go_wp2_with fail
      refine ⟨⟨i + 1, A1', c1', A2', c2', by omega, by go_num, rfl, rfl, ?_, ?_, HAP2, HZ3, HZ5, Lib.hid ⟨own_some HO5.out, own_some HO6.out⟩, g5, hw5⟩, ?_⟩
      · rw [HT1.out, List.map_append]; exact HO5
      · rw [HT2.out, List.map_append]; exact HO6
      · simp [intOf]; omega
    · obtain rfl : i = l.length := by omega
      have h1 := HO1.out; have h2 := HO2.out
      rw [ovL_take_all] at h1
      rw [unL_take_all] at h2
      have HO1 := Lib.hid h1; have HO2 := Lib.hid h2
      clear h1 h2
      go_wp2
      refine bodyPost_ret (v := .tuple #[.slice A1 l.length c1, .slice A2 l.length c2]) (by simp [results, Try.results48, go_sem]) rfl ?_
      exact ⟨A1, c1, A2, c2, rfl, HO1.out, HO2.out, HAP.out, HNN.out.1, HNN.out.2, hw⟩
/-- factors that are read -/
theorem facs_ov {m : HMd} {l : List Int} {w W : World} {base c : Nat} {A : Option Addr} (hmod : ModOk m) (hreg : regB m.outs l) (hl : l.length ≤ 1000) (h : W.ownsRow base 3 1 (.slice A l.length c) l.length ((ovL m l).map (Value.int .i64))) : Facs W W.heap.size A (ovL m l) := by
  obtain ⟨A9, c9, e9, hs9, _, _⟩ := sl_of_ownK (l := ovL m l) (by rw [flat_int, ovL_len]; exact h)
  rw [ovL_len] at e9
  cases e9
  refine ⟨hs9, by rw [ovL_len]; exact hl, fun y hy => ?_⟩
  obtain ⟨i, hi, rfl⟩ := List.mem_map.1 hy
  have := wtI_bd hmod hreg (List.mem_range.1 hi)
  omega
theorem facs_un {m : HMd} {l : List Int} {w W : World} {base c : Nat} {A : Option Addr} (hmod : ModOk m) (hreg : regB m.outs l) (hl : l.length ≤ 1000) (h : W.ownsRow base 3 1 (.slice A l.length c) l.length ((unL m l).map (Value.int .i64))) : Facs W W.heap.size A (unL m l) := by
  obtain ⟨A9, c9, e9, hs9, _, _⟩ := sl_of_ownK (l := unL m l) (by rw [flat_int, unL_len]; exact h)
  rw [unL_len] at e9
  cases e9
  refine ⟨hs9, by rw [unL_len]; exact hl, fun y hy => ?_⟩
  obtain ⟨i, hi, rfl⟩ := List.mem_map.1 hy
  have := wtI_bd hmod hreg (List.mem_range.1 hi)
  omega
set_option maxRecDepth 100000 in
set_option maxHeartbeats 4000000 in
theorem rcompareM_any (x y : Md) (lA : Option Addr) (lc : Nat) (l : List Int) (w : World) (hm1 : ModOk x.m) (hm2 : ModOk y.m) (hreg1 : regB x.m.outs l) (hreg2 : regB y.m.outs l) (hl : l.length ≤ 1000) (hx : x.reads w w.heap.size) (hy : y.reads w w.heap.size) (hr : Sl intCell 1 w w.heap.size lA l) :
    Calls Try.prog 18 #[.agg #[.int .i64 x.kind, .slice x.a x.rows.length x.c, .int .i64 x.after], .agg #[.int .i64 y.kind, .slice y.a y.rows.length y.c, .int .i64 y.after], .slice lA l.length lc] w fun e w' => e = .returned (.int .i64 (cmpM x.m y.m l)) ∧ Below w.heap.size w w' := by
  have HF1 := Lib.hid (fun W (hW : Below w.heap.size w W) => rfactors_any x lA lc l W hm1 hreg1 hl ((hx.below hW).more hW.size) ((hr.below hW).more hW.size))
  have HF2 := Lib.hid (fun W (hW : Below w.heap.size w W) => rfactors_any y lA lc l W hm2 hreg2 hl ((hy.below hW).more hW.size) ((hr.below hW).more hW.size))
  have HM1 := Lib.hid hm1; have HM2 := Lib.hid hm2; have HR1 := Lib.hid hreg1; have HR2 := Lib.hid hreg2
  clear hm1 hm2 hreg1 hreg2 hx hy hr
  go_enter Try.func18, Try.ntmps18
  go_upto_region 1 with fail
  obtain ⟨z, hz⟩ : ∃ z, z = w.heap.size := ⟨_, rfl⟩
  rw [← hz]
  refine gen_w (fun W => Blk W z #[.int .i64 x.kind, .slice x.a x.rows.length x.c, .int .i64 x.after] 25 ∧ Blk W (z + 1) #[.int .i64 y.kind, .slice y.a y.rows.length y.c, .int .i64 y.after] 25 ∧ Below w.heap.size w W) ⟨(Blk.at_ hz).alloc _, Blk.at_ (by simp [hz]), by (repeat (first | exact Below.refl _ _ | assumption | (refine Below.alloc ?_ (by first | omega | (simp; omega) | (simp; done)) _) | (refine Below.setCell ?_ (by first | omega | (simp; omega) | (simp; done)) _) | (refine Below.drew ?_) | (refine belowN ?_ _) | (refine Below.trans ?_ (Below.mono ‹Below _ _ _› (by first | omega | (simp; omega) | (simp; done))))))⟩ ?_
  rintro V ⟨g0, g1, hw⟩
  have d0 := g0.cell 0; have d1 := g0.cell 1; have d2 := g0.cell 2
  simp at d0 d1 d2
  clear hz
  go_wp2_with (first | (go_at_call 48; refine (HF1.out _ hw).mono ?_; rintro _ w1 ⟨A1, c1, A2, c2, rfl, o1, o2, -, -, -, hb1⟩; refine Hid.out ?_) | fail)
  have f1 := facs_ov (w := w) HM1.out HR1.out hl o1
  have f2 := facs_un (w := w) HM1.out HR1.out hl o2
  have g1 := g1.below hb1 g1.lt
  have hw := bl2 hw hb1
  have d0 := g1.cell 0; have d1 := g1.cell 1; have d2 := g1.cell 2
  simp at d0 d1 d2
  clear o1 o2 hb1 g0
  refine Lib.hid ?_
  go_wp2_with (first | (go_at_call 48; refine (HF2.out _ hw).mono ?_; rintro _ w2 ⟨A3, c3, A4, c4, rfl, o3, o4, -, -, -, hb2⟩; refine Hid.out ?_) | fail)
  have f3 := facs_ov (w := w) HM2.out HR2.out hl o3
  have f4 := facs_un (w := w) HM2.out HR2.out hl o4
  have f1 := (f1.below hb2).more hb2.size
  have f2 := (f2.below hb2).more hb2.size
  have hw := bl2 hw hb2
  have HPR := rproducts_any A1 c1 (ovL x.m l) A4 c4 (unL y.m l) A3 c3 (ovL y.m l) A2 c2 (unL x.m l) w2 f1 f4 f3 f2
  rw [ovL_len, unL_len, ovL_len, unL_len, prod_ovL, prod_ovL, prod_unL, prod_unL] at HPR
  have HC : Hid (cmpM x.m y.m l = cmpN (ovN x.m l l.length * unN y.m l l.length) (ovN y.m l l.length * unN x.m l l.length)) := Lib.hid rfl
  rw [← HC.out] at HPR
  clear o3 o4 hb2 g1 d0 d1 d2 f1 f2 f3 f4 HC
  refine Lib.hid ?_
  go_wp2_with (first | (go_at_call 49; refine HPR.mono ?_; rintro _ w3 ⟨rfl, hb3⟩; refine Hid.out ?_) | fail)
  have hw := bl2 hw hb3
  refine Lib.hid ?_
  go_wp2
  go_ret
  exact ⟨rfl, hw⟩
end Go.Proofs.Ytiikkcifdhcejaa
namespace Go.Proofs.Ytiikkcifdhcejaa
open Go.RowKit

theorem belGo_err : ∀ (l : List Two) (x : Ch), (belGo l x).2.2 ≠ 0 → (belGo l x).1 = 0 ∧ (belGo l x).2.1 = 0
  | [], x, h => by simp [belGo] at h
  | t :: l, x, h => by
    simp only [belGo] at h ⊢
    split
    · exact ⟨rfl, rfl⟩
    · split
      · exact ⟨rfl, rfl⟩
      · rename_i h1 h2
        rw [if_neg h1, if_neg h2] at h
        exact belGo_err l _ h
theorem belR_err {c : Ch} {a b : HMd} {l : List Int} (h : (belR c a b l).2.2 ≠ 0) : (belR c a b l).1 = 0 ∧ (belR c a b l).2.1 = 0 := by
  unfold belR at h ⊢
  split
  · exact ⟨rfl, rfl⟩
  · split
    · exact ⟨rfl, rfl⟩
    · rename_i h1 h2
      rw [if_neg h1, if_neg h2] at h
      split
      · rename_i h3
        rw [if_pos h3] at h
        exact belGo_err _ _ h
      · exact ⟨rfl, rfl⟩
/-- what no error means -/
theorem belR_ok {c : Ch} {a b : HMd} {l : List Int} (h : (belR c a b l).2.2 = 0) : OkC c ∧ c.d ≤ 1000000000 ∧ regsE [a, b] l = 0 ∧ belGo (twoL a b l) c = belR c a b l := by
  unfold belR at h ⊢
  by_cases h1 : okC c = false
  · rw [if_pos h1] at h; cases h
  · rw [if_neg h1] at h ⊢
    by_cases h2 : 1000000000 < c.d
    · rw [if_pos h2] at h; cases h
    · rw [if_neg h2] at h ⊢
      by_cases h3 : regsE [a, b] l = 0
      · rw [if_pos h3]
        exact ⟨okC_iff.1 (by simpa using h1), by omega, h3, rfl⟩
      · rw [if_neg h3] at h; exact absurd h h3
theorem belR_of {c : Ch} {a b : HMd} {l : List Int} (h1 : OkC c) (h2 : c.d ≤ 1000000000) (h3 : regsE [a, b] l = 0) : belR c a b l = belGo (twoL a b l) c := by
  unfold belR
  rw [if_neg (by rw [okC_iff.2 h1]; simp), if_neg (by omega), if_pos h3]
theorem prA_snoc (t : Two) : ∀ l : List Two, prA (l ++ [t]) = prA l * (t.wa * t.sb)
  | [] => by simp [prA]
  | x :: l => by simp only [List.cons_append, prA, prA_snoc t l]; ac_rfl
theorem prB_snoc (t : Two) : ∀ l : List Two, prB (l ++ [t]) = prB l * (t.wb * t.sa)
  | [] => by simp [prB]
  | x :: l => by simp only [List.cons_append, prB, prB_snoc t l]; ac_rfl
def twoF (a b : HMd) (l : List Int) (i : Nat) : Two := ⟨(wtI a l i).1, (wtI a l i).2, (wtI b l i).1, (wtI b l i).2⟩
theorem two_pr {a b : HMd} {l : List Int} (ha : ModOk a) (hb : ModOk b) (hla : regB a.outs l) (hlb : regB b.outs l) : ∀ k, k ≤ l.length → prA ((List.range k).map (twoF a b l)) = ((ovN a l k * unN b l k : Nat) : Int) ∧ prB ((List.range k).map (twoF a b l)) = ((ovN b l k * unN a l k : Nat) : Int)
  | 0, _ => by simp [prA, prB, ovN, unN]
  | k + 1, hk => by
    obtain ⟨h1, h2⟩ := two_pr ha hb hla hlb k (by omega)
    have wa := wtI_bd ha hla (show k < l.length by omega)
    have wb := wtI_bd hb hlb (show k < l.length by omega)
    obtain ⟨p1, e1⟩ := Int.eq_ofNat_of_zero_le wa.1
    obtain ⟨p2, e2⟩ := Int.eq_ofNat_of_zero_le (show 0 ≤ (wtI a l k).2 by omega)
    obtain ⟨p3, e3⟩ := Int.eq_ofNat_of_zero_le wb.1
    obtain ⟨p4, e4⟩ := Int.eq_ofNat_of_zero_le (show 0 ≤ (wtI b l k).2 by omega)
    rw [List.range_succ, List.map_append, List.map_singleton, prA_snoc, prB_snoc, h1, h2]
    simp only [twoF, e1, e2, e3, e4, ovN, unN, Int.toNat_natCast]
    push_cast
    constructor <;> ac_rfl
theorem cmpI_nat (x y : Nat) : cmpI (x : Int) (y : Int) = cmpN x y := by
  unfold cmpI cmpN
  by_cases h : x < y
  · rw [if_pos h, if_pos (by omega)]
  · rw [if_neg h, if_neg (by omega)]
    by_cases h2 : x = y
    · rw [if_pos h2, if_neg (by omega)]
    · rw [if_neg h2, if_pos (by omega)]
theorem twoL_ok {a b : HMd} {l : List Int} (ha : ModOk a) (hb : ModOk b) (hla : regB a.outs l) (hlb : regB b.outs l) : ∀ t ∈ twoL a b l, TwoOk t := fun t ht => by
  unfold twoL at ht
  obtain ⟨i, hi, rfl⟩ := List.mem_map.1 ht
  have hi := List.mem_range.1 hi
  have wa := wtI_bd ha hla hi
  have wb := wtI_bd hb hlb hi
  exact ⟨⟨wa.1, by show (wtI a l i).1 ≤ 32000; omega⟩, ⟨wa.2.2.1, by show (wtI a l i).2 ≤ 32000; omega⟩, ⟨wb.1, by show (wtI b l i).1 ≤ 32000; omega⟩, ⟨wb.2.2.1, by show (wtI b l i).2 ≤ 32000; omega⟩⟩
/-- a belief rises as the register's chances compare -/
theorem bel_law {c : Ch} {a b : HMd} {l : List Int} {n d : Int} (h : belR c a b l = (n, d, 0)) :
    hcmpR a b l = (cmpM a b l, 0) ∧ OkC ⟨n, d⟩ ∧ cmpR ⟨n, d⟩ c = (if 0 < c.n ∧ c.n < c.d then cmpM a b l else 0, 0) := by
  obtain ⟨hc, hd, hr, hg⟩ := belR_ok (by rw [h])
  rw [h] at hg
  have hz := regs_zero hr
  have ha := hz.1 a (by simp)
  have hb := hz.1 b (by simp)
  obtain ⟨o1, o2, o3, o4⟩ := belGo_val _ _ (twoL_ok ha.1 hb.1 ha.2.2 hb.2.2) hc hd hg
  refine ⟨by unfold hcmpR; rw [if_pos hr], o1, ?_⟩
  obtain ⟨p1, p2⟩ := two_pr ha.1 hb.1 ha.2.2 hb.2.2 l.length (Nat.le_refl _)
  have hcm := bel_cmp hc o1.d1 o3 o4
  have e1 : prA (twoL a b l) = ((ovN a l l.length * unN b l l.length : Nat) : Int) := p1
  have e2 : prB (twoL a b l) = ((ovN b l l.length * unN a l l.length : Nat) : Int) := p2
  rw [e1, e2, cmpI_nat] at hcm
  unfold cmpR
  rw [if_pos (okP_iff.2 ⟨o1, hc⟩)]
  by_cases hi : 0 < c.n ∧ c.n < c.d
  · rw [if_pos hi]; simp only; rw [hcm.1 hi]; rfl
  · rw [if_neg hi]; simp only; rw [hcm.2 hi]
theorem regs_sub {a b : HMd} {l l' : List Int} (h : regsE [a, b] l = 0) (hs : ∀ y ∈ l', y ∈ l) (hl : l'.length ≤ l.length) : regsE [a, b] l' = 0 := by
  have hz := regs_zero h
  have ha := hz.1 a (by simp)
  unfold regsE at h ⊢
  by_cases h1 : modsB [a, b] = true
  · rw [if_pos h1] at h ⊢
    unfold inE
    rw [if_neg (by omega), if_neg]
    rintro ⟨-, h2⟩
    obtain ⟨y, hy, h3⟩ := List.any_eq_true.1 h2
    have := ha.2.2 y (hs y hy)
    simp only [outB, decide_eq_true_eq] at h3
    have h4 : y < 0 ∨ (a.outs : Int) ≤ y := h3
    omega
  · rw [if_neg h1] at h; cases h
theorem map_getD {α : Type} (g : Int → α) : ∀ l : List Int, (List.range l.length).map (fun i => g (l.getD i 0)) = l.map g := fun l => by
  apply List.ext_getElem
  · simp
  · intro i h1 h2
    simp at h1 h2
    simp [h1]
theorem twoL_steady {a b : HMd} (ha : a.kind = 1) (hb : b.kind = 1) (l : List Int) : twoL a b l = l.map fun y => ⟨a.row0.getD y.toNat 0, totI a.row0, b.row0.getD y.toNat 0, totI b.row0⟩ := by
  rw [← map_getD]
  unfold twoL
  apply List.map_congr_left
  intro i _
  unfold wtI
  simp only [ha, hb]
  simp
/-- a belief told in two parts -/
theorem bel_parts {c : Ch} {a b : HMd} {l : List Int} {n d : Int} (ha : a.kind = 1) (hb : b.kind = 1) (h : belR c a b l = (n, d, 0)) (k : Nat) :
    ∃ n1 d1, belR c a b (l.take k) = (n1, d1, 0) ∧ belR ⟨n1, d1⟩ a b (l.drop k) = (n, d, 0) := by
  obtain ⟨hc, hd, hr, hg⟩ := belR_ok (by rw [h])
  rw [h] at hg
  have hz := regs_zero hr
  have hA := hz.1 a (by simp)
  have hB := hz.1 b (by simp)
  have r1 := regs_sub (l' := l.take k) hr (fun y hy => List.mem_of_mem_take hy) (by simp; omega)
  have r2 := regs_sub (l' := l.drop k) hr (fun y hy => List.mem_of_mem_drop hy) (by simp)
  have e : twoL a b l = twoL a b (l.take k) ++ twoL a b (l.drop k) := by
    rw [twoL_steady ha hb, twoL_steady ha hb, twoL_steady ha hb, ← List.map_append, List.take_append_drop]
  rw [e, belGo_append] at hg
  by_cases h1 : (belGo (twoL a b (l.take k)) c).2.2 = 0
  · rw [if_pos h1] at hg
    obtain ⟨⟨n1, d1, e1⟩, he⟩ : ∃ q, q = belGo (twoL a b (l.take k)) c := ⟨_, rfl⟩
    rw [← he] at h1 hg
    simp only at h1
    subst h1
    have hz1 := regs_zero r1
    have hA1 := hz1.1 a (by simp)
    have hB1 := hz1.1 b (by simp)
    obtain ⟨o1, o2, -, -⟩ := belGo_val _ _ (twoL_ok hA1.1 hB1.1 hA1.2.2 hB1.2.2) hc hd he.symm
    exact ⟨n1, d1, by rw [belR_of hc hd r1]; exact he.symm, by rw [belR_of o1 o2 r2]; exact hg⟩
  · rw [if_neg h1] at hg
    rw [hg] at h1
    exact absurd rfl h1
end Go.Proofs.Ytiikkcifdhcejaa
namespace Go.Proofs.Ytiikkcifdhcejaa

theorem wtI_take {m : HMd} {l : List Int} {t i : Nat} (hi : i < t) (ht : t ≤ l.length) : wtI m (l.take t) i = wtI m l i := by
  have g : ∀ j, j < t → (l.take t).getD j 0 = l.getD j 0 := fun j hj => by
    rw [List.getD_eq_getElem?_getD, List.getElem?_take, if_pos hj, ← List.getD_eq_getElem?_getD]
  have e2 : (l.take t).take i = l.take i := by rw [List.take_take, Nat.min_eq_left (by omega)]
  unfold wtI
  rw [g i hi, g (i - 1) (by omega), e2]
theorem ovN_take {m : HMd} {l : List Int} {t : Nat} (ht : t ≤ l.length) : ∀ k, k ≤ t → ovN m (l.take t) k = ovN m l k
  | 0, _ => rfl
  | k + 1, h => by simp only [ovN]; rw [ovN_take ht k (by omega), wtI_take (by omega) ht]
theorem unN_take {m : HMd} {l : List Int} {t : Nat} (ht : t ≤ l.length) : ∀ k, k ≤ t → unN m (l.take t) k = unN m l k
  | 0, _ => rfl
  | k + 1, h => by simp only [unN]; rw [unN_take ht k (by omega), wtI_take (by omega) ht]
/-- the factors of a register whose first casts come by one model -/
def paO (a b : HMd) (l : List Int) (t : Nat) : List Int := ovL a (l.take t) ++ ovL b (l.drop t)
def paU (a b : HMd) (l : List Int) (t : Nat) : List Int := unL a (l.take t) ++ unL b (l.drop t)
theorem paO_len {a b : HMd} {l : List Int} {t : Nat} (ht : t ≤ l.length) : (paO a b l t).length = l.length := by
  unfold paO; rw [List.length_append, ovL_len, ovL_len, List.length_take, List.length_drop]; omega
theorem paU_len {a b : HMd} {l : List Int} {t : Nat} (ht : t ≤ l.length) : (paU a b l t).length = l.length := by
  unfold paU; rw [List.length_append, unL_len, unL_len, List.length_take, List.length_drop]; omega
theorem paO_prod {a b : HMd} {l : List Int} {t : Nat} (ht : t ≤ l.length) : prodI (paO a b l t) = ovN a l t * ovN b (l.drop t) (l.length - t) := by
  unfold paO
  rw [prodI_append, prod_ovL, prod_ovL, List.length_take, List.length_drop, Nat.min_eq_left ht, ovN_take ht t (Nat.le_refl _)]
theorem paU_prod {a b : HMd} {l : List Int} {t : Nat} (ht : t ≤ l.length) : prodI (paU a b l t) = unN a l t * unN b (l.drop t) (l.length - t) := by
  unfold paU
  rw [prodI_append, prod_unL, prod_unL, List.length_take, List.length_drop, Nat.min_eq_left ht, unN_take ht t (Nat.le_refl _)]
/-- some of the first i numbers is 0 -/
def zB (p : List Int) (i : Nat) : Bool := (p.take i).any (· == 0)
theorem zB_succ {p : List Int} {i : Nat} (hi : i < p.length) : zB p (i + 1) = (zB p i || p[i] == 0) := by
  unfold zB; rw [List.take_succ_eq_append_getElem hi, List.any_append]; simp
theorem zB_prod {p : List Int} (h : ∀ x ∈ p, 0 ≤ x) : zB p p.length = true ↔ prodI p = 0 := by
  unfold zB
  rw [List.take_length]
  induction p with
  | nil => simp [prodI]
  | cons x p ih =>
    have hx := h x (by simp)
    have := ih fun y hy => h y (by simp [hy])
    rw [List.any_cons, Bool.or_eq_true, this, prodI, Nat.mul_eq_zero, beq_iff_eq]
    constructor
    · rintro (h1 | h1)
      · left; rw [h1]; rfl
      · exact .inr h1
    · rintro (h1 | h1)
      · left; omega
      · exact .inr h1
end Go.Proofs.Ytiikkcifdhcejaa
namespace Go.Proofs.Ytiikkcifdhcejaa
open Go.RowKit

theorem ints_upto (A : Option Addr) (len c t : Nat) (W : World) (h : t ≤ len) (hc : len ≤ c) : (Instr.slice 30 (.slice A len c) none (some (.int .i64 (t : Int))) none).run Try.prog W = .ok (.slice A t c) W := by
  rw [run_slice_h W 30 A len c (by kernel_rfl) .i64 (t : Int) (by omega) (by omega)]
  have hs : (sizeOf (Try.prog.elem 30)).run Try.prog W = .ok 1 W := by kernel_rfl
  rw [hs, Int.toNat_natCast]
  show Result.ok (sliced A 0 t c 1) W = _
  unfold sliced
  have e : Option.map (fun x : Addr => x.add (0 * 1)) A = A := by
    cases A with
    | none => rfl
    | some ad =>
      obtain ⟨b, o, s⟩ := ad
      cases s <;> simp [Addr.add]
  rw [e]
  simp
theorem news_ints {W : World} {B : Nat} {ad : Addr} {l : List Int} (h : Sl intCell 1 W B (some ad) l) : ∀ j u, (l.map (Value.int .i64))[j]? = some u → W.cell? (ad.add j) = some u := fun j u hu => by
  have hj : j < l.length := by
    have := (List.getElem?_eq_some_iff.1 hu).1
    simpa using this
  obtain ⟨b, o, e, _, hc⟩ := h.2 (by omega)
  cases e
  have := hc j u (by rw [flat_int]; exact hu)
  rw [Go.WideShapes.add_plain]; exact this
def RetParts (a b : HMd) (l : List Int) (t : Nat) (w : World) (e : Ending) (w' : World) : Prop :=
  ∃ (A1 : Option Addr) (c1 : Nat) (A2 : Option Addr) (c2 : Nat), e = .returned (.tuple #[.slice A1 l.length c1, .slice A2 l.length c2]) ∧ Facs w' w'.heap.size A1 (paO a b l t) ∧ Facs w' w'.heap.size A2 (paU a b l t) ∧ Below w.heap.size w w'
theorem ovL_bd {m : HMd} {l : List Int} (hmod : ModOk m) (hreg : regB m.outs l) : ∀ y ∈ ovL m l, 0 ≤ y ∧ y ≤ 100000 := fun y hy => by
  obtain ⟨i, hi, rfl⟩ := List.mem_map.1 hy
  have := wtI_bd hmod hreg (List.mem_range.1 hi)
  omega
theorem unL_bd {m : HMd} {l : List Int} (hmod : ModOk m) (hreg : regB m.outs l) : ∀ y ∈ unL m l, 0 ≤ y ∧ y ≤ 100000 := fun y hy => by
  obtain ⟨i, hi, rfl⟩ := List.mem_map.1 hy
  have := wtI_bd hmod hreg (List.mem_range.1 hi)
  omega
theorem facs_pa {W : World} {base c n : Nat} {A : Option Addr} {xs ys : List Int} (hn : xs.length + ys.length = n) (hl : n ≤ 1000) (hx : ∀ v ∈ xs, 0 ≤ v ∧ v ≤ 100000) (hy : ∀ v ∈ ys, 0 ≤ v ∧ v ≤ 100000) (h : W.ownsRow base 3 1 (.slice A n c) n (xs.map (Value.int .i64) ++ ys.map (Value.int .i64))) : Facs W W.heap.size A (xs ++ ys) := by
  obtain ⟨A9, c9, e9, hs9, _, _⟩ := sl_of_ownK (l := xs ++ ys) (by rw [flat_int, List.length_append, hn, List.map_append]; exact h)
  rw [List.length_append, hn] at e9
  cases e9
  refine ⟨hs9, by rw [List.length_append, hn]; exact hl, fun v hv => ?_⟩
  rcases List.mem_append.1 hv with h1 | h1
  · exact hx v h1
  · exact hy v h1
set_option maxRecDepth 100000 in
set_option maxHeartbeats 4000000 in
theorem rparts_any (x y : Md) (lA : Option Addr) (lc : Nat) (l : List Int) (t : Nat) (w : World) (ht : t ≤ l.length) (hlc : l.length ≤ lc) (hm1 : ModOk x.m) (hm2 : ModOk y.m) (hreg1 : regB x.m.outs l) (hreg2 : regB y.m.outs l) (hl : l.length ≤ 1000) (hx : x.reads w w.heap.size) (hy : y.reads w w.heap.size) (hr : Sl intCell 1 w w.heap.size lA l) :
    Calls Try.prog 55 #[.agg #[.int .i64 x.kind, .slice x.a x.rows.length x.c, .int .i64 x.after], .agg #[.int .i64 y.kind, .slice y.a y.rows.length y.c, .int .i64 y.after], .slice lA l.length lc, .int .i64 (t : Int)] w (RetParts x.m y.m l t w) := by
  obtain ⟨i0', hInf, iz0, iz1, iz2⟩ := info_parts infoInt
  have hlt : (l.take t).length = t := by rw [List.length_take]; omega
  have hld : (l.drop t).length = l.length - t := by rw [List.length_drop]
  have hrt : regB x.m.outs (l.take t) := fun v hv => hreg1 v (List.mem_of_mem_take hv)
  have hrd : regB y.m.outs (l.drop t) := fun v hv => hreg2 v (List.mem_of_mem_drop hv)
  obtain ⟨A', hA1, hA2⟩ := hr.from_ (fun _ => rfl) t lc hlc
  have hto := fun W => ints_upto lA l.length lc t W ht hlc
  have hfr := fun W => ints_slice lA l.length lc t W ht
  rw [hA1] at hfr
  have HF1 : Hid (∀ W, Below w.heap.size w W → Calls Try.prog 48 #[.agg #[.int .i64 x.kind, .slice x.a x.rows.length x.c, .int .i64 x.after], .slice lA t lc] W (RetFacs x.m (l.take t) W)) := Lib.hid fun W hW => by
    have := rfactors_any x lA lc (l.take t) W hm1 hrt (by omega) ((hx.below hW).more hW.size) (((hr.front t).below hW).more hW.size)
    rw [hlt] at this; exact this
  have HF2 : Hid (∀ W, Below w.heap.size w W → Calls Try.prog 48 #[.agg #[.int .i64 y.kind, .slice y.a y.rows.length y.c, .int .i64 y.after], .slice A' (l.length - t) (lc - t)] W (RetFacs y.m (l.drop t) W)) := Lib.hid fun W hW => by
    have := rfactors_any y A' (lc - t) (l.drop t) W hm2 hrd (by omega) ((hy.below hW).more hW.size) ((hA2.below hW).more hW.size)
    rw [hld] at this; exact this
  have HM1 := Lib.hid hm1; have HM2 := Lib.hid hm2; have HRT := Lib.hid hrt; have HRD := Lib.hid hrd
  clear hm1 hm2 hreg1 hreg2 hrt hrd hx hy hr hA1 hA2
  go_enter Try.func55, Try.ntmps55
  go_upto_region 1 with fail
  obtain ⟨z, hz⟩ : ∃ z, z = w.heap.size := ⟨_, rfl⟩
  rw [← hz]
  refine gen_w (fun W => Blk W z #[.int .i64 x.kind, .slice x.a x.rows.length x.c, .int .i64 x.after] 25 ∧ Blk W (z + 1) #[.int .i64 y.kind, .slice y.a y.rows.length y.c, .int .i64 y.after] 25 ∧ Below w.heap.size w W) ⟨(Blk.at_ hz).alloc _, Blk.at_ (by simp [hz]), by (repeat (first | exact Below.refl _ _ | assumption | (refine Below.alloc ?_ (by first | omega | (simp; omega) | (simp; done)) _) | (refine Below.setCell ?_ (by first | omega | (simp; omega) | (simp; done)) _) | (refine Below.drew ?_) | (refine belowN ?_ _) | (refine Below.trans ?_ (Below.mono ‹Below _ _ _› (by first | omega | (simp; omega) | (simp; done))))))⟩ ?_
  rintro V ⟨g0, g1, hw⟩
  have hzw : w.heap.size ≤ z := by omega
  have d0 := g0.cell 0; have d1 := g0.cell 1; have d2 := g0.cell 2
  simp at d0 d1 d2
  have gl0 := g0.lt
  have hV0 : Below V.heap.size V V := Below.refl _ _
  clear hz
  go_region_held3 (fun W' => W'.cell? ⟨z, 0, none⟩ = some (.int .i64 x.kind) ∧ W'.cell? ⟨z, 1, none⟩ = some (.slice x.a x.rows.length x.c) ∧ W'.cell? ⟨z, 2, none⟩ = some (.int .i64 x.after)) (first | exact ⟨d0, d1, d2⟩ | go_keep)
    (first | (simp only [hto]) | (go_loud (go_at_call 48; refine (HF1.out _ (by (repeat (first | exact Below.refl _ _ | assumption | (refine Below.alloc ?_ (by first | omega | (simp; omega) | (simp; done)) _) | (refine Below.setCell ?_ (by first | omega | (simp; omega) | (simp; done)) _) | (refine Below.drew ?_) | (refine belowN ?_ _) | (refine Below.trans ?_ (Below.mono ‹Below _ _ _› (by first | omega | (simp; omega) | (simp; done)))))))).mono ?_; rintro _ w1 ⟨A1, c1, A2, c2, rfl, o1, o2, hap, hn1, hn2, hb1⟩; have hb1' : Below V.heap.size V w1 := (Below.refl _ V).drew.trans hb1; have g0 := g0.below hb1' gl0; have d0 := g0.cell 0; have d1 := g0.cell 1; have d2 := g0.cell 2; simp at d0 d1 d2)) | fail)
  rw [hlt] at o1 o2 hap
  have hw1 := bl2 hw hb1'
  have g1 := g1.below hb1' g1.lt
  have hVw := hw.size
  have o1 := owns_low (b' := w.heap.size) o1 (by show w.heap.size ≤ V.heap.size; exact hVw)
  have o2 := owns_low (b' := w.heap.size) o2 (by show w.heap.size ≤ V.heap.size; exact hVw)
  have O1 := Lib.hid o1; have O2 := Lib.hid o2; have HAP := Lib.hid hap; have HN1 := Lib.hid hn1; have HN2 := Lib.hid hn2
  clear hb1 hb1' g0 d0 d1 d2 gl0 o1 o2 hap hn1 hn2 hV0 hw
  have d0 := g1.cell 0; have d1 := g1.cell 1; have d2 := g1.cell 2
  simp at d0 d1 d2
  have gl1 := g1.lt
  go_upto_region 2 with fail
  go_region_held3 (fun W' => W'.cell? ⟨z + 1, 0, none⟩ = some (.int .i64 y.kind) ∧ W'.cell? ⟨z + 1, 1, none⟩ = some (.slice y.a y.rows.length y.c) ∧ W'.cell? ⟨z + 1, 2, none⟩ = some (.int .i64 y.after)) (first | exact ⟨d0, d1, d2⟩ | go_keep)
    (first | (simp only [hfr]) | (go_loud (go_at_call 48; refine (HF2.out _ (by (repeat (first | exact Below.refl _ _ | assumption | (refine Below.alloc ?_ (by first | omega | (simp; omega) | (simp; done)) _) | (refine Below.setCell ?_ (by first | omega | (simp; omega) | (simp; done)) _) | (refine Below.drew ?_) | (refine belowN ?_ _) | (refine Below.trans ?_ (Below.mono ‹Below _ _ _› (by first | omega | (simp; omega) | (simp; done)))))))).mono ?_; rintro _ w2 ⟨A3, c3, A4, c4, rfl, o3, o4, hap2, hn3, hn4, hb2⟩; have hb2' : Below w1.heap.size w1 w2 := (Below.refl _ w1).drew.trans hb2; have g1 := g1.below hb2' gl1; have d0 := g1.cell 0; have d1 := g1.cell 1; have d2 := g1.cell 2; simp at d0 d1 d2)) | fail)
  rw [hld] at o3 o4 hap2
  have hw2 := bl2 hw1 hb2'
  have hz2 := hw2.size
  have o1 := own_stp O1.out hb2'
  have o2 := own_stp O2.out hb2'
  have hlo1 : ∀ g, (Value.slice A1 t c1).ownBlock = some g → g < w1.heap.size := fun g hg => (O1.out.lt g hg).2
  have hlo2 : ∀ g, (Value.slice A2 t c2).ownBlock = some g → g < w1.heap.size := fun g hg => (O2.out.lt g hg).2
  have hge3 : ∀ g, (Value.slice A3 (l.length - t) c3).ownBlock = some g → w1.heap.size ≤ g := fun g hg => (o3.lt g hg).1
  have hge4 : ∀ g, (Value.slice A4 (l.length - t) c4).ownBlock = some g → w1.heap.size ≤ g := fun g hg => (o4.lt g hg).1
  have ap41 : Apart (.slice A4 (l.length - t) c4) (.slice A1 t c1) := fun g g' h1 h2 e => by have := hge4 g h1; have := hlo1 g' h2; omega
  have f3 := facs_ov (w := w) HM2.out HRD.out (by omega) (by rw [hld]; exact o3)
  obtain ⟨ad3, rfl⟩ : ∃ ad, A3 = some ad := by
    cases A3 with
    | none => exact absurd rfl hn3
    | some ad => exact ⟨ad, rfl⟩
  obtain ⟨ad4, rfl⟩ : ∃ ad, A4 = some ad := by
    cases A4 with
    | none => exact absurd rfl hn4
    | some ad => exact ⟨ad, rfl⟩
  have hnw3 := news_ints f3.sl
  have hlen3 : ((ovL y.m (l.drop t)).map (Value.int .i64)).length = (l.length - t) * 1 := by rw [List.length_map, ovL_len, hld]; omega
  have hlen4 : ((unL y.m (l.drop t)).map (Value.int .i64)).length = (l.length - t) * 1 := by rw [List.length_map, unL_len, hld]; omega
  have hone : ∀ L : List Int, ∀ u ∈ L.map (Value.int .i64), u.oneCell' = true := fun L u hu => by
    obtain ⟨v, _, rfl⟩ := List.mem_map.1 hu
    simp [Value.oneCell']
  have HN3 := Lib.hid hnw3; have HL3 := Lib.hid hlen3; have HL4 := Lib.hid hlen4; have HONE := Lib.hid hone
  have O1 := Lib.hid o1; have O2 := Lib.hid o2; have O4 := Lib.hid o4
  have HLT := Lib.hid hlt; have HLD := Lib.hid hld
  have htl : t + (l.length - t) = l.length := by omega
  have hb1000 : t ≤ 1000 := by omega
  clear hb2 hb2' g1 d0 d1 d2 gl1 o1 o2 o3 o4 hap2 hn3 hn4 f3 hnw3 hlen3 hlen4 hone hlt hld hto hfr hw1
  go_wp2_with (first | (at_builtin; refine wpList_append_own_at _ rfl _ _ 30 rfl w.heap.size 3 i0' (.int .i64 0) 1 8 uInts hInf iz0 iz1 iz2 rfl (by decide) _ _ _ rfl O1.out ad3 (l.length - t) c3 ((ovL y.m (l.drop t)).map (Value.int .i64)) rfl HL3.out HN3.out (HONE.out _) (by unfold maxLen; omega) (by omega) hz2 ?_; intro v' w3 hown3 hgrow3 _ hat3; refine Hid.out ?_) | fail)
  obtain ⟨A5, c5, rfl⟩ := ownSl hown3
  rw [htl] at hown3 hat3 ⊢
  have hat3 : (Value.slice A5 l.length c5).ownBlock = (Value.slice A1 t c1).ownBlock ∨ (Value.slice A5 l.length c5).ownBlock = some w2.heap.size := hat3
  have ap52 : Apart (.slice A5 l.length c5) (.slice A2 t c2) := HAP.out.step hat3 (fun g hg => (O2.out.lt g hg).2)
  have o2 : w3.ownsRow w.heap.size 3 1 (.slice A2 t c2) t ((unL x.m (l.take t)).map (Value.int .i64)) := O2.out.kept hgrow3 HAP.out.symm.or
  have o4 : w3.ownsRow _ 3 1 (.slice (some ad4) (l.length - t) c4) (l.length - t) ((unL y.m (l.drop t)).map (Value.int .i64)) := O4.out.kept hgrow3 ap41.or
  have hw3 : Below w.heap.size w w3 := hw2.grown hgrow3 hz2 (fun g hg => (O1.out.lt g hg).1)
  have hz3 := hw3.size
  have f4 := facs_un (w := w) HM2.out HRD.out (by rw [HLD.out]; omega) (by rw [HLD.out]; exact o4)
  have hnw4 := news_ints f4.sl
  have HN4 := Lib.hid hnw4
  have O5 := Lib.hid hown3; have O2 := Lib.hid o2
  clear hown3 hgrow3 hat3 o2 o4 f4 hnw4 O1 O4 HAP ap41 hw2 hz2
  refine Lib.hid ?_
  go_wp2_with (first | (at_builtin; refine wpList_append_own_at _ rfl _ _ 30 rfl w.heap.size 3 i0' (.int .i64 0) 1 8 uInts hInf iz0 iz1 iz2 rfl (by decide) _ _ _ rfl O2.out ad4 (l.length - t) c4 ((unL y.m (l.drop t)).map (Value.int .i64)) rfl HL4.out HN4.out (HONE.out _) (by unfold maxLen; omega) (by omega) hz3 ?_; intro v' w5 hown5 hgrow5 _ hat5; refine Hid.out ?_) | fail)
  obtain ⟨A6, c6, rfl⟩ := ownSl hown5
  rw [htl] at hown5 ⊢
  have o5 : w5.ownsRow w.heap.size 3 1 (.slice A5 l.length c5) l.length ((ovL x.m (l.take t)).map (Value.int .i64) ++ (ovL y.m (l.drop t)).map (Value.int .i64)) := O5.out.kept hgrow5 ap52.or
  have hw5 : Below w.heap.size w w5 := hw3.grown hgrow5 hz3 (fun g hg => (O2.out.lt g hg).1)
  have F5 := Lib.hid (facs_pa (xs := ovL x.m (l.take t)) (ys := ovL y.m (l.drop t)) (n := l.length) (by rw [ovL_len, ovL_len, HLT.out, HLD.out, htl]) hl (ovL_bd HM1.out HRT.out) (ovL_bd HM2.out HRD.out) o5)
  have F6 := Lib.hid (facs_pa (xs := unL x.m (l.take t)) (ys := unL y.m (l.drop t)) (n := l.length) (by rw [unL_len, unL_len, HLT.out, HLD.out, htl]) hl (unL_bd HM1.out HRT.out) (unL_bd HM2.out HRD.out) hown5)
  clear hown5 hgrow5 hat5 o5 O5 O2
  refine Lib.hid ?_
  go_wp2_with fail
  refine bodyPost_ret (v := .tuple #[.slice A5 l.length c5, .slice A6 l.length c6]) (by simp [results, Try.results55, go_sem]) rfl ?_
  exact ⟨A5, c5, A6, c6, rfl, F5.out, F6.out, hw5⟩
end Go.Proofs.Ytiikkcifdhcejaa

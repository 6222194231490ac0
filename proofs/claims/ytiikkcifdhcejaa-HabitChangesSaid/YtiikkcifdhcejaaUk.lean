/- habit, references: Change. -/
import Derived.Test.YtiikkcifdhcejaaZ32Uh
namespace Go.Proofs.Ytiikkcifdhcejaa
open Go.RowKit

theorem chg_neg (a b : HMd) (l : List Int) : ∀ t, (chgGo a b l t).1 < 0 → (chgGo a b l t).2 = (0, 1)
  | 0, _ => rfl
  | t + 1, h => by
    simp only [chgGo] at h ⊢
    split
    · rename_i h1
      rw [if_pos h1] at h
      simp at h
      omega
    · rename_i h1
      rw [if_neg h1] at h
      exact chg_neg a b l t h
theorem chg_bd (a b : HMd) (l : List Int) : ∀ t, -1 ≤ (chgGo a b l t).1 ∧ (chgGo a b l t).1 < (t : Int)
  | 0 => by simp [chgGo]
  | t + 1 => by
    have := chg_bd a b l t
    simp only [chgGo]
    split
    · simp; omega
    · omega
theorem chg_take {a b : HMd} {l : List Int} {t : Nat} (h : 0 < cmpN (chA a b l t * (chgGo a b l t).2.2) ((chgGo a b l t).2.1 * chB a b l t)) : chgGo a b l (t + 1) = ((t : Int), chA a b l t, chB a b l t) := by
  simp only [chgGo]; rw [if_pos h]
theorem chg_keep {a b : HMd} {l : List Int} {t : Nat} (h : ¬ 0 < cmpN (chA a b l t * (chgGo a b l t).2.2) ((chgGo a b l t).2.1 * chB a b l t)) : chgGo a b l (t + 1) = chgGo a b l t := by
  simp only [chgGo]; rw [if_neg h]
theorem cmpN_pos {x y : Nat} (h : 0 < x) : 0 < cmpN (x * 1) (0 * y) := by
  rw [Nat.zero_mul, Nat.mul_one, cmpN_gt h]; decide
structure RcI (w : World) (x y : Md) (z : Nat) (A1 : Option Addr) (L1 : List Int) (A2 : Option Addr) (L2 : List Int) (W : World) : Prop where
  low : Below w.heap.size w W
  g0 : Blk W z #[.int .i64 x.kind, .slice x.a x.rows.length x.c, .int .i64 x.after] 25
  g1 : Blk W (z + 1) #[.int .i64 y.kind, .slice y.a y.rows.length y.c, .int .i64 y.after] 25
  f1 : Facs W W.heap.size A1 L1
  f2 : Facs W W.heap.size A2 L2
theorem RcI.below {w : World} {x y : Md} {z : Nat} {A1 A2 : Option Addr} {L1 L2 : List Int} {W W' : World} (h : RcI w x y z A1 L1 A2 L2 W) (hb : Below W.heap.size W W') : RcI w x y z A1 L1 A2 L2 W' :=
  ⟨bl2 h.low hb, h.g0.below hb h.g0.lt, h.g1.below hb h.g1.lt, (h.f1.below hb).more hb.size, (h.f2.below hb).more hb.size⟩
theorem facs_nil {W : World} {A : Option Addr} : Facs W W.heap.size A [] := ⟨⟨by simp [flat], fun h => by simp at h⟩, by simp, fun x h => by cases h⟩
set_option maxRecDepth 100000 in
set_option maxHeartbeats 4000000 in
theorem rchange_any (x y : Md) (lA : Option Addr) (lc : Nat) (l : List Int) (w : World) (hlc : l.length ≤ lc) (hm1 : ModOk x.m) (hm2 : ModOk y.m) (hreg1 : regB x.m.outs l) (hreg2 : regB y.m.outs l) (hl : l.length ≤ 1000) (hx : x.reads w w.heap.size) (hy : y.reads w w.heap.size) (hr : Sl intCell 1 w w.heap.size lA l) :
    Calls Try.prog 22 #[.agg #[.int .i64 x.kind, .slice x.a x.rows.length x.c, .int .i64 x.after], .agg #[.int .i64 y.kind, .slice y.a y.rows.length y.c, .int .i64 y.after], .slice lA l.length lc] w fun e w' => e = .returned (.int .i64 (chgGo x.m y.m l (l.length + 1)).1) ∧ Below w.heap.size w w' := by
  have HPA := Lib.hid (fun t (ht : t ≤ l.length) W (hW : Below w.heap.size w W) => rparts_any x y lA lc l t W ht hlc hm1 hm2 hreg1 hreg2 hl ((hx.below hW).more hW.size) ((hy.below hW).more hW.size) ((hr.below hW).more hW.size))
  clear hm1 hm2 hreg1 hreg2 hx hy hr
  obtain ⟨a, ha⟩ : ∃ m, m = x.m := ⟨_, rfl⟩
  obtain ⟨b, hb⟩ : ∃ m, m = y.m := ⟨_, rfl⟩
  rw [← ha, ← hb] at HPA ⊢
  clear ha hb
  go_enter Try.func22, Try.ntmps22
  go_wp2_with fail
  obtain ⟨z, hz⟩ : ∃ z, z = w.heap.size := ⟨_, rfl⟩
  rw [← hz]
  refine gen_w (fun W => Below w.heap.size w W ∧ Blk W z #[.int .i64 x.kind, .slice x.a x.rows.length x.c, .int .i64 x.after] 25 ∧ Blk W (z + 1) #[.int .i64 y.kind, .slice y.a y.rows.length y.c, .int .i64 y.after] 25) ⟨by (repeat (first | exact Below.refl _ _ | assumption | (refine Below.alloc ?_ (by first | omega | (simp; omega) | (simp; done)) _) | (refine Below.setCell ?_ (by first | omega | (simp; omega) | (simp; done)) _) | (refine Below.drew ?_) | (refine belowN ?_ _) | (refine Below.trans ?_ (Below.mono ‹Below _ _ _› (by first | omega | (simp; omega) | (simp; done)))))), (((Blk.at_ hz).alloc _).alloc _).alloc _, ((Blk.at_ (by simp [hz])).alloc _).alloc _⟩ ?_
  rintro V ⟨hV, g0, g1⟩
  have HI0 := fun A1 A2 => Lib.hid (show RcI w x y z A1 [] A2 [] V from ⟨hV, g0, g1, facs_nil, facs_nil⟩)
  clear hV g0 g1 hz
  go_loopw [7, 8, 9, 10] (fun bv ov uv iv W => ∃ (t : Nat) (A1 : Option Addr) (c1 : Nat) (L1 : List Int) (A2 : Option Addr) (c2 : Nat) (L2 : List Int), t ≤ l.length + 1 ∧ iv = .int .i64 (t : Int) ∧ bv = .int .i64 (chgGo a b l t).1 ∧ ov = .slice A1 L1.length c1 ∧ uv = .slice A2 L2.length c2 ∧ Hid (RcI w x y z A1 L1 A2 L2 W) ∧ Hid (0 ≤ (chgGo a b l t).1 → prodI L1 = (chgGo a b l t).2.1 ∧ prodI L2 = (chgGo a b l t).2.2)) (fun _ _ _ iv _ => l.length + 1 - (intOf iv).toNat)
  case atStart => exact ⟨0, _, _, [], _, _, [], by omega, rfl, rfl, rfl, rfl, HI0 _ _, Lib.hid fun h => by simp [chgGo] at h⟩
  case round =>
    clear HI0
    obtain ⟨t, A1, c1, L1, A2, c2, L2, ht, rfl, rfl, rfl, rfl, HI, HPR⟩ := hrel
    have hbd := chg_bd a b l t
    obtain ⟨bt, hbt⟩ : ∃ q, q = (chgGo a b l t).1 := ⟨_, rfl⟩
    have HBT := Lib.hid hbt
    rw [← hbt] at hbd ⊢
    clear hbt
    by_cases hlt : t ≤ l.length
    · have hz0 := HI.out.g0.cell 0; have hz1 := HI.out.g0.cell 1; have hz2 := HI.out.g0.cell 2
      have hy0 := HI.out.g1.cell 0; have hy1 := HI.out.g1.cell 1; have hy2 := HI.out.g1.cell 2
      simp at hz0 hz1 hz2 hy0 hy1 hy2
      have HP := Lib.hid (HPA.out t hlt wr HI.out.low)
      have dl : decide ((t : Int) ≤ (l.length : Int)) = true := decide_eq_true (by omega)
      have i0 : (0 : Int) ≤ (t : Int) := by omega
      have i1 : (t : Int) ≤ (l.length : Int) := by omega
      go_wp2_with (first | (go_at_call 55; refine HP.out.mono ?_; rintro _ w2 ⟨A3, c3, A4, c4, rfl, f3, f4, hb2⟩; refine Hid.out ?_) | fail)
      have HI2 := Lib.hid (HI.out.below hb2)
      obtain ⟨p, hp⟩ : ∃ p, p = paO a b l t := ⟨_, rfl⟩
      obtain ⟨q, hq⟩ : ∃ q, q = paU a b l t := ⟨_, rfl⟩
      have hpl : p.length = l.length := by rw [hp]; exact paO_len hlt
      have hql : q.length = l.length := by rw [hq]; exact paU_len hlt
      have HCA : Hid (prodI p = chA a b l t) := (by show _ = _; rw [hp, paO_prod hlt]; rfl : _)
      have HCB : Hid (prodI q = chB a b l t) := (by show _ = _; rw [hq, paU_prod hlt]; rfl : _)
      rw [← hp] at f3
      rw [← hq] at f4
      have HZP : Hid (zB p p.length = true ↔ prodI p = 0) := Lib.hid (zB_prod fun v hv => (f3.bd v hv).1)
      have F3 := Lib.hid f3; have F4 := Lib.hid f4
      have HPL := Lib.hid hpl; have HQL := Lib.hid hql
      obtain ⟨t9, ht9⟩ : ∃ q, q = t + 1 := ⟨_, rfl⟩
      have HT9 := Lib.hid ht9
      have w9 : IntKind.i64.wrap ((t : Int) + 1) = (t9 : Int) := by rw [ht9, Int.natCast_add]; exact IntWalk.i64_in _ ⟨by omega, by omega⟩
      clear hb2 hz0 hz1 hz2 hy0 hy1 hy2 f3 f4 hp hq HI HP hql
      refine Lib.hid ?_
      clear hpl
      go_wp2_with fail
      go_loopw [13, 14] (fun zv iv W => ∃ i : Nat, i ≤ l.length ∧ iv = .int .i64 (i : Int) ∧ zv = .bool (zB p i) ∧ Below w2.heap.size w2 W) (fun _ iv _ => l.length - (intOf iv).toNat)
      case atStart => exact ⟨0, by omega, rfl, by simp [zB], Below.refl _ _⟩
      case round =>
        obtain ⟨i, hi, rfl, rfl, hb⟩ := hrel
        by_cases hlti0 : i < l.length
        · have hlti : i < p.length := by rw [HPL.out]; exact hlti0
          obtain ⟨b3, f3, rfl, hbb3, c3'⟩ := (F3.out.sl.below hb).int_at hlti
          have hsu := zB_succ hlti
          obtain ⟨v, hv⟩ : ∃ v, v = p[i] := ⟨_, rfl⟩
          rw [← hv] at c3' hsu
          obtain ⟨zb, hzb⟩ : ∃ q, q = zB p i := ⟨_, rfl⟩
          rw [← hzb] at hsu ⊢
          have HSU := Lib.hid hsu
          have j0 : (0 : Int) ≤ (i : Int) := by omega
          have j1 : (i : Int) < (l.length : Int) := by omega
          clear hv hzb hsu
          cases zb
          · by_cases hv0 : v = 0
            · have q5 : (v == 0) = true := by simp; exact hv0
              have HF : Hid (zB p (i + 1) = true) := (by show _ = _; rw [HSU.out, q5]; rfl : _)
              clear hv0
              go_wp2
              go_roundw
              case rel => exact ⟨i + 1, by omega, by go_num, by rw [HF.out], hb⟩
              case measure => simp [intOf]; omega
            · have q5 : (v == 0) = false := by simp; exact hv0
              have HF : Hid (zB p (i + 1) = false) := (by show _ = _; rw [HSU.out, q5]; rfl : _)
              clear hv0
              go_wp2
              go_roundw
              case rel => exact ⟨i + 1, by omega, by go_num, by rw [HF.out], hb⟩
              case measure => simp [intOf]; omega
          · have HF : Hid (zB p (i + 1) = true) := (by show _ = _; rw [HSU.out, Bool.true_or] : _)
            go_wp2
            go_roundw
            case rel => exact ⟨i + 1, by omega, by go_num, by rw [HF.out], hb⟩
            case measure => simp [intOf]; omega
        · obtain rfl : i = l.length := by omega
          have HZP : Hid (zB p l.length = true ↔ prodI p = 0) := (by have := HZP.out; rw [HPL.out] at this; exact this : _)
          have HI3 := Lib.hid (HI2.out.below hb)
          have F3 := Lib.hid ((F3.out.below hb).more hb.size)
          have F4 := Lib.hid ((F4.out.below hb).more hb.size)
          by_cases hp0 : prodI p = 0
          · have ez := HZP.out.2 hp0
            rw [ez]
            have HK : Hid (chgGo a b l t9 = chgGo a b l t) := (by
              show _ = _
              rw [HT9.out]
              refine chg_keep ?_
              rw [← HCA.out, hp0]
              exact chg_zero : _)
            have HI5 := HI3
            have HP5 : Hid (0 ≤ (chgGo a b l t9).1 → prodI L1 = (chgGo a b l t9).2.1 ∧ prodI L2 = (chgGo a b l t9).2.2) := (by rw [HK.out]; exact HPR : _)
            clear ez hp0
            go_wp2
            refine ⟨⟨t9, _, _, _, _, _, _, by have := HT9.out; omega, by go_num, by rw [HK.out, ← HBT.out], rfl, rfl, HI5, HP5⟩, ?_⟩
            have := HT9.out; simp [intOf]; omega
          · have ez : zB p l.length = false := by
              rw [← Bool.not_eq_true]; exact fun h => hp0 (HZP.out.1 h)
            rw [ez]
            have HIn : Hid (RcI w x y z A3 p A4 q wr) := Lib.hid ⟨HI3.out.low, HI3.out.g0, HI3.out.g1, F3.out, F4.out⟩
            by_cases hbn : bt < 0
            · have qb : decide (bt < 0) = true := decide_eq_true hbn
              have HK : Hid (chgGo a b l t9 = ((t : Int), chA a b l t, chB a b l t)) := (by
                show _ = _
                rw [HT9.out]
                refine chg_take ?_
                have e2 := chg_neg a b l t (by rw [← HBT.out]; exact hbn)
                rw [e2, ← HCA.out]
                exact cmpN_pos (by omega) : _)
              have HP5 : Hid (0 ≤ (chgGo a b l t9).1 → prodI p = (chgGo a b l t9).2.1 ∧ prodI q = (chgGo a b l t9).2.2) := (by rw [HK.out]; exact fun _ => ⟨HCA.out, HCB.out⟩ : _)
              have HQP : Hid (p.length = q.length) := (by show _ = _; rw [HPL.out, HQL.out] : _)
              clear ez hp0 hbn
              go_wp2
              refine ⟨⟨t9, A3, _, p, A4, _, q, by have := HT9.out; have := HPL.out; omega, by go_num, by rw [HK.out], by rw [HPL.out], by rw [HQL.out], HIn, HP5⟩, ?_⟩
              have := HT9.out; simp [intOf]; omega
            · have qb : decide (bt < 0) = false := decide_eq_false hbn
              obtain ⟨e1, e2⟩ := HPR.out (by rw [← HBT.out]; omega)
              have HPC := rproducts_any A3 c3 p A2 c2 L2 A1 c1 L1 A4 c4 q wr F3.out HI3.out.f2 HI3.out.f1 F4.out
              rw [e1, e2, HCA.out, HCB.out] at HPC
              have HQP : Hid (p.length = q.length) := (by show _ = _; rw [HPL.out, HQL.out] : _)
              rw [HQL.out, HPL.out] at HPC
              obtain ⟨cv, hcv⟩ : ∃ q, q = cmpN (chA a b l t * (chgGo a b l t).2.2) ((chgGo a b l t).2.1 * chB a b l t) := ⟨_, rfl⟩
              rw [← hcv] at HPC
              have HPCH := Lib.hid HPC
              by_cases hc0 : 0 < cv
              · have qc : decide (0 < cv) = true := decide_eq_true hc0
                have HK : Hid (chgGo a b l t9 = ((t : Int), chA a b l t, chB a b l t)) := (by
                  show _ = _
                  rw [HT9.out]
                  exact chg_take (by rw [← hcv]; exact hc0) : _)
                have HP5 : Hid (0 ≤ (chgGo a b l t9).1 → prodI p = (chgGo a b l t9).2.1 ∧ prodI q = (chgGo a b l t9).2.2) := (by rw [HK.out]; exact fun _ => ⟨HCA.out, HCB.out⟩ : _)
                clear ez hp0 hbn hc0 hcv HPC e1 e2
                go_wp2_with (first | (go_at_call 49; refine HPCH.out.mono ?_; rintro _ w6 ⟨rfl, hb6⟩) | fail)
                have HI6 := Lib.hid (HIn.out.below hb6)
                refine ⟨⟨t9, A3, _, p, A4, _, q, by have := HT9.out; have := HPL.out; omega, by go_num, by rw [HK.out], by rw [HPL.out], by rw [HQL.out], HI6, HP5⟩, ?_⟩
                have := HT9.out; simp [intOf]; omega
              · have qc : decide (0 < cv) = false := decide_eq_false hc0
                have HK : Hid (chgGo a b l t9 = chgGo a b l t) := (by
                  show _ = _
                  rw [HT9.out]
                  exact chg_keep (by rw [← hcv]; exact hc0) : _)
                have HP5 : Hid (0 ≤ (chgGo a b l t9).1 → prodI L1 = (chgGo a b l t9).2.1 ∧ prodI L2 = (chgGo a b l t9).2.2) := (by rw [HK.out]; exact HPR : _)
                clear ez hp0 hbn hc0 hcv HPC e1 e2
                go_wp2_with (first | (go_at_call 49; refine HPCH.out.mono ?_; rintro _ w6 ⟨rfl, hb6⟩) | fail)
                have HI6 := Lib.hid (HI3.out.below hb6)
                refine ⟨⟨t9, _, _, _, _, _, _, by have := HT9.out; have := HPL.out; omega, by go_num, by rw [HK.out, ← HBT.out], rfl, rfl, HI6, HP5⟩, ?_⟩
                have := HT9.out; simp [intOf]; omega
    · obtain rfl : t = l.length + 1 := by omega
      have dl : decide (((l.length + 1 : Nat) : Int) ≤ (l.length : Int)) = false := decide_eq_false (by omega)
      have dl2 : decide ((l.length : Int) + 1 ≤ (l.length : Int)) = false := decide_eq_false (by omega)
      have HLW := Lib.hid HI.out.low
      go_wp2
      go_ret
      exact ⟨ret_int HBT.out, HLW.out⟩
end Go.Proofs.Ytiikkcifdhcejaa

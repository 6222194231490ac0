/- habit: Compare. -/
import Derived.Test.YtiikkcifdhcejaaZ15Wk
namespace Go.Proofs.Ytiikkcifdhcejaa
open Go.RowKit

def hcmpR (a b : HMd) (l : List Int) : Int × Int := if regsE [a, b] l = 0 then (cmpM a b l, 0) else (0, regsE [a, b] l)
set_option maxRecDepth 100000 in
set_option maxHeartbeats 4000000 in
theorem habCmp_any (x y : Md) (l : List Int) (lA : Option Addr) (lc : Nat) (w : World) (hlen : l.length ≤ 1000000) (hx : x.reads w w.heap.size) (hy : y.reads w w.heap.size) (hl : Sl intCell 1 w w.heap.size lA l) :
    Calls Try.prog 13 #[.agg #[.int .i64 x.kind, .slice x.a x.rows.length x.c, .int .i64 x.after], .agg #[.int .i64 y.kind, .slice y.a y.rows.length y.c, .int .i64 y.after], .slice lA l.length lc] w fun e w' => e = .returned (.tuple #[.int .i64 (hcmpR x.m y.m l).1, .int .i64 (hcmpR x.m y.m l).2]) ∧ Below w.heap.size w w' := by
  obtain ⟨er, her⟩ : ∃ e, e = regsE [x.m, y.m] l := ⟨_, rfl⟩
  have HC : Hid (∀ W, Below w.heap.size w W → ∀ b, Blk W b #[.int .i64 x.kind, .slice x.a x.rows.length x.c, .int .i64 x.after, .int .i64 y.kind, .slice y.a y.rows.length y.c, .int .i64 y.after] 25 → Calls Try.prog 40 #[.slice lA l.length lc, .slice (some ⟨b, 0, none⟩) 2 2] W fun e w' => e = .returned (.int .i64 er) ∧ Below W.heap.size W w') := Lib.hid fun W hW b hb => by
    rw [her]; exact checkR_any lA lc l (some ⟨b, 0, none⟩) 2 [x, y] W hlen (by simp) ((hl.below hW).more hW.size) (mds_two hb ((hx.below hW).more hW.size) ((hy.below hW).more hW.size))
  have HR := Lib.hid her
  have HOX := Lib.hid (fun W (hW : Below w.heap.size w W) h1 h2 h3 => scOf_any x l lA lc W ((hx.below hW).more hW.size) ((hl.below hW).more hW.size) h1 h2 h3)
  have HOY := Lib.hid (fun W (hW : Below w.heap.size w W) h1 h2 h3 => scOf_any y l lA lc W ((hy.below hW).more hW.size) ((hl.below hW).more hW.size) h1 h2 h3)
  clear hx hy hl her
  go_enter Try.func13, Try.ntmps13
  go_upto_region 1 with fail
  obtain ⟨b3, hb3⟩ : ∃ b, b = w.heap.size := ⟨_, rfl⟩
  rw [← hb3]
  refine gen_w (fun W => b3 + 1 < W.heap.size ∧ Below w.heap.size w W ∧ Blk W b3 #[.int .i64 x.kind, .slice x.a x.rows.length x.c, .int .i64 x.after] 25 ∧ Blk W (b3 + 1) #[.int .i64 y.kind, .slice y.a y.rows.length y.c, .int .i64 y.after] 25) ⟨by simp [hb3], by (repeat (first | exact Below.refl _ _ | assumption | (refine Below.alloc ?_ (by first | omega | (simp; omega) | (simp; done)) _) | (refine Below.setCell ?_ (by first | omega | (simp; omega) | (simp; done)) _) | (refine Below.drew ?_) | (refine belowN ?_ _) | (refine Below.trans ?_ (Below.mono ‹Below _ _ _› (by first | omega | (simp; omega) | (simp; done)))))), (Blk.at_ hb3).alloc _, Blk.at_ (by simp [hb3])⟩ ?_
  rintro V ⟨hVz, hV, g1, g2⟩
  have hwb : w.heap.size ≤ b3 := by omega
  have d0 := g1.cell 0; have d1 := g1.cell 1; have d2 := g1.cell 2
  have k0 := g2.cell 0; have k1 := g2.cell 1; have k2 := g2.cell 2
  simp at d0 d1 d2 k0 k1 k2
  clear hb3
  by_cases h0 : er = 0
  · subst h0
    have hz := regs_zero HR.out.symm
    have hmx := hz.1 x.m (by simp)
    have hmy := hz.1 y.m (by simp)
    have HEX : Hid (hcmpR x.m y.m l = (cmpM x.m y.m l, 0)) := (by show _ = _; unfold hcmpR; rw [if_pos HR.out.symm] : _)
    have HOX := Lib.hid (fun W hW => HOX.out W hW hmx.1 hmx.2.2 hz.2)
    have HOY := Lib.hid (fun W hW => HOY.out W hW hmy.1 hmy.2.2 hz.2)
    have hl4 := hz.2
    go_wp2_with (first | (go_at_call 40; refine (HC.out _ (by (repeat (first | exact Below.refl _ _ | assumption | (refine Below.alloc ?_ (by first | omega | (simp; omega) | (simp; done)) _) | (refine Below.setCell ?_ (by first | omega | (simp; omega) | (simp; done)) _) | (refine Below.drew ?_) | (refine belowN ?_ _) | (refine Below.trans ?_ (Below.mono ‹Below _ _ _› (by first | omega | (simp; omega) | (simp; done))))))) _ (Blk.new V _ _)).mono ?_; rintro _ w1 ⟨rfl, hb1⟩; refine Hid.out ?_) | fail)
    have hb1V : Below V.heap.size V w1 := ((Below.refl _ V).alloc (Nat.le_refl _) _).trans (hb1.mono (by simp))
    have g1 := g1.below hb1V (by omega)
    have g2 := g2.below hb1V (by omega)
    have hV1 := bl2 hV hb1V
    clear hb1 hb1V d0 d1 d2 k0 k1 k2 hz hmx hmy
    have hS : ∀ W, Below w1.heap.size w1 W → W.cell? ⟨b3, 0, none⟩ = some (.int .i64 x.kind) ∧ W.cell? ⟨b3, 1, none⟩ = some (.slice x.a x.rows.length x.c) ∧ W.cell? ⟨b3, 2, none⟩ = some (.int .i64 x.after) ∧ W.cell? ⟨b3 + 1, 0, none⟩ = some (.int .i64 y.kind) ∧ W.cell? ⟨b3 + 1, 1, none⟩ = some (.slice y.a y.rows.length y.c) ∧ W.cell? ⟨b3 + 1, 2, none⟩ = some (.int .i64 y.after) := fun W hW => by
      have g1 := g1.below hW g1.lt
      have g2 := g2.below hW g2.lt
      have d0 := g1.cell 0; have d1 := g1.cell 1; have d2 := g1.cell 2
      have k0 := g2.cell 0; have k1 := g2.cell 1; have k2 := g2.cell 2
      simp at d0 d1 d2 k0 k1 k2
      exact ⟨d0, d1, d2, k0, k1, k2⟩
    refine Lib.hid ?_
    go_wp2_with fail
    refine' wp_region_planE [.eff, .eff, .eff, .eff, .eff, .eff, .eff, .eff, .eff] [Det _, Det _, ScV (ovN x.m l l.length) (unN x.m l l.length) (l.length + 1) 0, Det _, Det _, ScV (ovN y.m l l.length) (unN y.m l l.length) (l.length + 1) 0, Det (.int .i64 (cmpM x.m y.m l)), Det _, Det _] [(8, 7), (7, 6), (6, 23), (5, 22), (4, 21), (3, 20), (2, 19), (1, 18), (0, 17)] (by kernel_rfl) (by kernel_rfl) (by kernel_rfl) (by kernel_rfl) (by kernel_rfl) (by kernel_rfl) (by kernel_rfl) ?hp ?hend ?hst
    case hp =>
      refine And.intro ⟨[], by kernel_rfl, fun xs W hW hf K hK => opV_free rfl ?_⟩ ?_
      focus (have hs := hS W hW; (try simp only [factsL, pickF, Det, and_true] at hf); (try simp only [putL, Act.put, List.setIfInBounds_toArray, List.set_cons_zero, List.set_cons_succ]); (try simp only [hf]); go_simp; refine hK.out _ _ (Below.refl _ _) ?_; unfold Det; rfl)
      refine And.intro ⟨[], by kernel_rfl, fun xs W hW hf K hK => opV_free rfl ?_⟩ ?_
      focus (have hs := hS W hW; (try simp only [factsL, pickF, Det, and_true] at hf); (try simp only [putL, Act.put, List.setIfInBounds_toArray, List.set_cons_zero, List.set_cons_succ]); (try simp only [hf]); go_simp; refine hK.out _ _ (Below.refl _ _) ?_; unfold Det; rfl)
      refine And.intro ⟨[(1, 18), (0, 17)], by kernel_rfl, fun xs W hW hf K hK => opV_free rfl ?_⟩ ?_
      · simp only [factsL, pickF, Det, and_true] at hf
        (try simp only [putL, Act.put, List.setIfInBounds_toArray, List.set_cons_zero, List.set_cons_succ])
        simp only [hf]
        go_simp
        refine (HOX.out _ (bl2 hV1 hW)).mono ?_
        rintro _ w9 ⟨q, rfl, hx, hb9⟩
        exact ⟨_, rfl, hK.out _ _ hb9 (hx.mono (Nat.zero_le _))⟩
      refine And.intro ⟨[], by kernel_rfl, fun xs W hW hf K hK => opV_free rfl ?_⟩ ?_
      focus (have hs := hS W hW; (try simp only [factsL, pickF, Det, and_true] at hf); (try simp only [putL, Act.put, List.setIfInBounds_toArray, List.set_cons_zero, List.set_cons_succ]); (try simp only [hf]); go_simp; refine hK.out _ _ (Below.refl _ _) ?_; unfold Det; rfl)
      refine And.intro ⟨[], by kernel_rfl, fun xs W hW hf K hK => opV_free rfl ?_⟩ ?_
      focus (have hs := hS W hW; (try simp only [factsL, pickF, Det, and_true] at hf); (try simp only [putL, Act.put, List.setIfInBounds_toArray, List.set_cons_zero, List.set_cons_succ]); (try simp only [hf]); go_simp; refine hK.out _ _ (Below.refl _ _) ?_; unfold Det; rfl)
      refine And.intro ⟨[(4, 21), (3, 20)], by kernel_rfl, fun xs W hW hf K hK => opV_free rfl ?_⟩ ?_
      · simp only [factsL, pickF, Det, and_true] at hf
        (try simp only [putL, Act.put, List.setIfInBounds_toArray, List.set_cons_zero, List.set_cons_succ])
        simp only [hf]
        go_simp
        refine (HOY.out _ (bl2 hV1 hW)).mono ?_
        rintro _ w9 ⟨q, rfl, hx, hb9⟩
        exact ⟨_, rfl, hK.out _ _ hb9 (hx.mono (Nat.zero_le _))⟩
      refine And.intro ⟨[(5, 22), (2, 19)], by kernel_rfl, fun xs W hW hf K hK => opV_free rfl ?_⟩ ?_
      · simp only [factsL, pickF, Det, and_true] at hf
        (try simp only [putL, Act.put, List.setIfInBounds_toArray, List.set_cons_zero, List.set_cons_succ])
        obtain ⟨f1, f2⟩ := hf
        go_simp
        refine (scCmp_any _ _ _ _ (l.length + 1) _ _ 0 0 _ (by omega) f2 f1).mono ?_
        rintro _ w9 ⟨rfl, hb9⟩
        exact ⟨_, rfl, hK.out _ _ hb9 rfl⟩
      refine And.intro ⟨[(6, 23)], by kernel_rfl, fun xs W hW hf K hK => opV_free rfl ?_⟩ ?_
      focus (have hs := hS W hW; (try simp only [factsL, pickF, Det, and_true] at hf); (try simp only [putL, Act.put, List.setIfInBounds_toArray, List.set_cons_zero, List.set_cons_succ]); (try simp only [hf]); go_simp; refine hK.out _ _ (Below.refl _ _) ?_; unfold Det; rfl)
      refine And.intro ⟨[], by kernel_rfl, fun xs W hW hf K hK => opV_free rfl ?_⟩ ?_
      focus (have hs := hS W hW; (try simp only [factsL, pickF, Det, and_true] at hf); (try simp only [putL, Act.put, List.setIfInBounds_toArray, List.set_cons_zero, List.set_cons_succ]); (try simp only [hf]); go_simp; refine hK.out _ _ (Below.refl _ _) ?_; unfold Det; rfl)
      trivial
    case hst => exact ⟨det_stays, det_stays, ScV.stays, det_stays, det_stays, ScV.stays, det_stays, det_stays, det_stays, trivial⟩
    case hend =>
      intro xs W hW hf
      simp only [factsA, Det, Nat.zero_add, Nat.reduceAdd, and_true] at hf
      obtain ⟨f0, f1, f2, f3, f4, f5, f6, f7, f8⟩ := hf
      (simp only [putL, Act.put, upd, List.setIfInBounds_toArray, List.set_cons_zero, List.set_cons_succ])
      simp only [f0, f1, f3, f4, f6, f7, f8]
      clear f2 f5
      go_wp2
      refine bodyPost_ret (v := .tuple #[.int .i64 (cmpM x.m y.m l), .int .i64 0]) (by simp [results, Try.results13, go_sem]) rfl ?_
      rw [HEX.out]
      exact ⟨rfl, bl2 hV1 hW⟩
  · have HEX : Hid (hcmpR x.m y.m l = (0, er)) := (by show _ = _; unfold hcmpR; rw [if_neg (by rw [← HR.out]; exact h0), ← HR.out] : _)
    have hQ : (er != 0) = true := by simp; exact h0
    go_wp2_with (first | (go_at_call 40; refine (HC.out _ (by (repeat (first | exact Below.refl _ _ | assumption | (refine Below.alloc ?_ (by first | omega | (simp; omega) | (simp; done)) _) | (refine Below.setCell ?_ (by first | omega | (simp; omega) | (simp; done)) _) | (refine Below.drew ?_) | (refine belowN ?_ _) | (refine Below.trans ?_ (Below.mono ‹Below _ _ _› (by first | omega | (simp; omega) | (simp; done))))))) _ (Blk.new V _ _)).mono ?_; rintro _ w1 ⟨rfl, hb1⟩; refine Hid.out ?_) | fail)
    have hb1V : Below V.heap.size V w1 := ((Below.refl _ V).alloc (Nat.le_refl _) _).trans (hb1.mono (by simp))
    have hV1 := bl2 hV hb1V
    clear hb1 hb1V
    refine Lib.hid ?_
    go_wp2_with fail
    refine bodyPost_ret (v := .tuple #[.int .i64 0, .int .i64 er]) (by simp [results, Try.results13, go_sem]) rfl ?_
    rw [HEX.out]
    exact ⟨rfl, hV1⟩
end Go.Proofs.Ytiikkcifdhcejaa

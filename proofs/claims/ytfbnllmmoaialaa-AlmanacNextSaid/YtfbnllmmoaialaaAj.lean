/- almanac: LunarDay. -/
import Derived.Test.YtfbnllmmoaialaaAi
namespace Go.Proofs.Ytfbnllmmoaialaa
open Go.RowKit

/-- the number of the month of a date -/
def monN (r : Lun) (x : LDate) : Int := if longM r x.y && (decide (r.l < x.m) || x.k) then FI r x.y + x.m - 1 + 1 else FI r x.y + x.m - 1
def badL (r : Lun) (x : LDate) : Bool := !(inB x.m 1 12) || ((x.k && (!(longM r x.y) || x.m != r.l)) || !(inB x.d 1 (BI r (monN r x + 1) - BI r (monN r x))))
/-- the day of a date by the moon, or the error -/
def ldayR (r : Lun) (x : LDate) : Int × Int :=
  if lunB r then (if inB x.y 0 4000 then (if badL r x then (0, 7) else (if inB (BI r (monN r x) + x.d - 1) 0 1000000 then (BI r (monN r x) + x.d - 1, 0) else (0, 3))) else (0, 3)) else (0, 2)
set_option maxRecDepth 100000 in
set_option maxHeartbeats 8000000 in
theorem lunarDay_any (d p f m y s l y0 m0 d0 : Int) (k0 : Bool) (w : World) : Calls Try.prog 47 #[.agg #[.int .i64 d, .int .i64 p, .int .i64 f, .int .i64 m, .int .i64 y, .int .i64 s, .int .i64 l], .agg #[.int .i64 y0, .int .i64 m0, .int .i64 d0, .bool k0]] w fun en w' => en = .returned (.tuple #[.int .i64 (ldayR ⟨d, p, f, m, y, s, l⟩ ⟨y0, m0, d0, k0⟩).1, .int .i64 (ldayR ⟨d, p, f, m, y, s, l⟩ ⟨y0, m0, d0, k0⟩).2]) ∧ Below w.heap.size w w' := by
  cases hs : lunB ⟨d, p, f, m, y, s, l⟩ with
  | false =>
    have HSV := Lib.hid (fun W => isLunar_val hs W)
    have HT : Hid (ldayR ⟨d, p, f, m, y, s, l⟩ ⟨y0, m0, d0, k0⟩ = (0, 2)) := (by simp [ldayR, hs] : ldayR _ _ = _)
    clear hs
    go_enter Try.func47, Try.ntmps47
    go_wp2_with (go_at_call 73; refine (HSV.out _).mono ?_; rintro _ V1 ⟨rfl, hb1⟩; have g2 : Blk V1 w.heap.size #[.int .i64 d, .int .i64 p, .int .i64 f, .int .i64 m, .int .i64 y, .int .i64 s, .int .i64 l] 26 := ((Blk.at_ rfl).alloc _).below hb1 (by first | omega | (simp; omega) | (simp; done)); have gx : Blk V1 (w.heap.size + 1) #[.int .i64 y0, .int .i64 m0, .int .i64 d0, .bool k0] 77 := (Blk.at_ (by simp)).below hb1 (by first | omega | (simp; omega) | (simp; done)); have hw : Below w.heap.size w V1 := bl2 (by (repeat (first | exact Below.refl _ _ | assumption | (refine Below.alloc ?_ (by first | omega | (simp; omega) | (simp; done)) _) | (refine Below.setCell ?_ (by first | omega | (simp; omega) | (simp; done)) _) | (refine Below.drew ?_) | (refine belowN ?_ _) | (refine Below.trans ?_ (Below.mono ‹Below _ _ _› (by first | omega | (simp; omega) | (simp; done))))))) hb1; have c0 := g2.cell 0; have c1 := g2.cell 1; have c2 := g2.cell 2; have c3 := g2.cell 3; have c4 := g2.cell 4; have c5 := g2.cell 5; have c6 := g2.cell 6; have x0 := gx.cell 0; simp at c0 c1 c2 c3 c4 c5 c6 x0)
    refine bodyPost_ret (v := .tuple #[.int .i64 0, .int .i64 2]) (by simp [results, Try.results47, go_sem]) rfl ?_
    rw [HT.out]; exact ⟨rfl, hw⟩
  | true =>
    have HSV := Lib.hid (fun W => isLunar_val hs W)
    have ok := lunB_iff.1 hs
    cases hy : inB y0 0 4000 with
    | false =>
      have HYV := Lib.hid (fun W => isYear_val hy W)
      have HT : Hid (ldayR ⟨d, p, f, m, y, s, l⟩ ⟨y0, m0, d0, k0⟩ = (0, 3)) := (by simp [ldayR, hs, hy] : ldayR _ _ = _)
      clear hs hy
      go_enter Try.func47, Try.ntmps47
      go_wp2_with (first | (go_at_call 73; refine (HSV.out _).mono ?_; rintro _ V1 ⟨rfl, hb1⟩; have g2 : Blk V1 w.heap.size #[.int .i64 d, .int .i64 p, .int .i64 f, .int .i64 m, .int .i64 y, .int .i64 s, .int .i64 l] 26 := ((Blk.at_ rfl).alloc _).below hb1 (by first | omega | (simp; omega) | (simp; done)); have gx : Blk V1 (w.heap.size + 1) #[.int .i64 y0, .int .i64 m0, .int .i64 d0, .bool k0] 77 := (Blk.at_ (by simp)).below hb1 (by first | omega | (simp; omega) | (simp; done)); have hw : Below w.heap.size w V1 := bl2 (by (repeat (first | exact Below.refl _ _ | assumption | (refine Below.alloc ?_ (by first | omega | (simp; omega) | (simp; done)) _) | (refine Below.setCell ?_ (by first | omega | (simp; omega) | (simp; done)) _) | (refine Below.drew ?_) | (refine belowN ?_ _) | (refine Below.trans ?_ (Below.mono ‹Below _ _ _› (by first | omega | (simp; omega) | (simp; done))))))) hb1; have c0 := g2.cell 0; have c1 := g2.cell 1; have c2 := g2.cell 2; have c3 := g2.cell 3; have c4 := g2.cell 4; have c5 := g2.cell 5; have c6 := g2.cell 6; have x0 := gx.cell 0; simp at c0 c1 c2 c3 c4 c5 c6 x0) | (go_at_call 79; refine (HYV.out _).mono ?_; rintro _ _ ⟨rfl, rfl⟩))
      refine bodyPost_ret (v := .tuple #[.int .i64 0, .int .i64 3]) (by simp [results, Try.results47, go_sem]) rfl ?_
      rw [HT.out]; exact ⟨rfl, hw⟩
    | true =>
      have HYV := Lib.hid (fun W => isYear_val hy W)
      obtain ⟨y00, y01⟩ := inB_iff.1 hy
      obtain ⟨f1, f2⟩ := FI_bd ok (n := y0) (by omega) (by omega)
      obtain ⟨f3, f4⟩ := FI_bd ok (n := y0 + 1) (by omega) (by omega)
      have okp := ok.p; have okd := ok.d; have okf := ok.f; have oky := ok.y; have okm := ok.m; have oks := ok.s; have okl := ok.l
      simp only at f1 f3 okp okd okf oky okm oks okl
      have hFm : ∀ n : Int, 0 ≤ n → n ≤ 4001 → FI ⟨d, p, f, m, y, s, l⟩ n ≤ 60000 := fun n h0 h1 => by
        unfold FI atW
        have h2 := mul_bd (a := m) (b := n) (A := 13 * y) (B := 4001) (by omega) okm.2 h0 h1
        refine Int.ediv_le_of_le_mul (show 0 < y by omega) ?_
        show m * n + s ≤ 60000 * y
        omega
      have f2' := hFm y0 y00 (by omega)
      obtain ⟨F1, hF1⟩ : ∃ F, F = FI ⟨d, p, f, m, y, s, l⟩ y0 := ⟨_, rfl⟩
      obtain ⟨F2, hF2⟩ : ∃ F, F = FI ⟨d, p, f, m, y, s, l⟩ (y0 + 1) := ⟨_, rfl⟩
      have HF1 := Lib.hid (fun W => (by have h := wheelAt_any m y s y0 W (by omega) f1.1 (by omega) (by omega) (by omega); rw [show atW m y s y0 = F1 from hF1.symm] at h; exact h : Calls Try.prog 86 #[.agg #[.int .i64 m, .int .i64 y, .int .i64 s], .int .i64 y0] W fun e w' => e = .returned (.int .i64 F1) ∧ Below W.heap.size W w'))
      have HF2 := Lib.hid (fun W => (by have h := wheelAt_any m y s (y0 + 1) W (by omega) f3.1 (by omega) (by omega) (by omega); rw [show atW m y s (y0 + 1) = F2 from hF2.symm] at h; exact h : Calls Try.prog 86 #[.agg #[.int .i64 m, .int .i64 y, .int .i64 s], .int .i64 (y0 + 1)] W fun e w' => e = .returned (.int .i64 F2) ∧ Below W.heap.size W w'))
      obtain ⟨lg, hlg⟩ : ∃ b, b = (F2 - F1 == 13) := ⟨_, rfl⟩
      obtain ⟨gt, hgt⟩ : ∃ b, b = decide (l < m0) := ⟨_, rfl⟩
      have HMN : Hid (monN ⟨d, p, f, m, y, s, l⟩ ⟨y0, m0, d0, k0⟩ = if lg && (gt || k0) then F1 + m0 - 1 + 1 else F1 + m0 - 1) := (by rw [hlg, hgt, hF2, hF1]; rfl : monN _ _ = _)
      have HLG : Hid (longM ⟨d, p, f, m, y, s, l⟩ y0 = lg) := (by rw [hlg, hF2, hF1]; rfl : longM _ _ = _)
      obtain ⟨MM, hMM⟩ : ∃ M, M = monN ⟨d, p, f, m, y, s, l⟩ ⟨y0, m0, d0, k0⟩ := ⟨_, rfl⟩
      rw [← hMM] at HMN
      rw [← hF1] at f2 f2'
      rw [← hF2] at f4
      have v1 : IntKind.i64.wrap (F2 - F1) = F2 - F1 := IntWalk.i64_in _ ⟨by omega, by omega⟩
      have v2 : IntKind.i64.wrap (y0 + 1) = y0 + 1 := IntWalk.i64_in _ ⟨by omega, by omega⟩
      have HLG2 := Lib.hid hlg; have HGT := Lib.hid hgt.symm
      clear hlg hgt
      have HMMe := Lib.hid hMM
      have hHR : ldayR ⟨d, p, f, m, y, s, l⟩ ⟨y0, m0, d0, k0⟩ = (if badL ⟨d, p, f, m, y, s, l⟩ ⟨y0, m0, d0, k0⟩ then (0, 7) else (if inB (BI ⟨d, p, f, m, y, s, l⟩ MM + d0 - 1) 0 1000000 then (BI ⟨d, p, f, m, y, s, l⟩ MM + d0 - 1, 0) else (0, 3))) := by simp only [ldayR, hs, hy, if_true, hMM]
      have HHR := Lib.hid hHR
      clear hs hy hMM hF1 hF2 f1 f3 hFm hHR
      cases hm : inB m0 1 12 with
      | false =>
        have HMV := Lib.hid (fun W => within_val hm W)
        have HT : Hid (ldayR ⟨d, p, f, m, y, s, l⟩ ⟨y0, m0, d0, k0⟩ = (0, 7)) := (by rw [HHR.out]; simp only [badL, hm, Bool.not_false, Bool.true_or, if_true] : ldayR _ _ = _)
        clear hm HHR
        go_enter Try.func47, Try.ntmps47
        go_upto_region 5 with (first | (go_at_call 73; refine (HSV.out _).mono ?_; rintro _ V1 ⟨rfl, hb1⟩; have g2 : Blk V1 w.heap.size #[.int .i64 d, .int .i64 p, .int .i64 f, .int .i64 m, .int .i64 y, .int .i64 s, .int .i64 l] 26 := ((Blk.at_ rfl).alloc _).below hb1 (by first | omega | (simp; omega) | (simp; done)); have gx : Blk V1 (w.heap.size + 1) #[.int .i64 y0, .int .i64 m0, .int .i64 d0, .bool k0] 77 := (Blk.at_ (by simp)).below hb1 (by first | omega | (simp; omega) | (simp; done)); have hw : Below w.heap.size w V1 := bl2 (by (repeat (first | exact Below.refl _ _ | assumption | (refine Below.alloc ?_ (by first | omega | (simp; omega) | (simp; done)) _) | (refine Below.setCell ?_ (by first | omega | (simp; omega) | (simp; done)) _) | (refine Below.drew ?_) | (refine belowN ?_ _) | (refine Below.trans ?_ (Below.mono ‹Below _ _ _› (by first | omega | (simp; omega) | (simp; done))))))) hb1; have c0 := g2.cell 0; have c1 := g2.cell 1; have c2 := g2.cell 2; have c3 := g2.cell 3; have c4 := g2.cell 4; have c5 := g2.cell 5; have c6 := g2.cell 6; have x0 := gx.cell 0; simp at c0 c1 c2 c3 c4 c5 c6 x0) | (go_at_call 79; refine (HYV.out _).mono ?_; rintro _ _ ⟨rfl, rfl⟩))
        go_upto_region 6 with (go_at_call 85; refine (wheels_any d p f m y s l _).mono ?_; rintro _ V2 ⟨rfl, hb2⟩)
        obtain ⟨b5, hb5⟩ : ∃ b, b = V2.heap.size := ⟨_, rfl⟩
        refine gen_w (fun W => Blk W w.heap.size #[.int .i64 d, .int .i64 p, .int .i64 f, .int .i64 m, .int .i64 y, .int .i64 s, .int .i64 l] 26 ∧ Blk W (w.heap.size + 1) #[.int .i64 y0, .int .i64 m0, .int .i64 d0, .bool k0] 77 ∧ Blk W b5 #[.int .i64 d, .int .i64 p, .int .i64 f] 132 ∧ Blk W (b5 + 1) #[.int .i64 m, .int .i64 y, .int .i64 s] 132 ∧ Below w.heap.size w W) ⟨((g2.below hb2 g2.lt).alloc _).alloc _, ((gx.below hb2 gx.lt).alloc _).alloc _, by rw [hb5]; exact (Blk.new _ _ _).alloc _, by rw [hb5]; exact Blk.at_ (by simp), bla (bla (bl2 hw hb2))⟩ ?_
        rw [← hb5]
        clear g2 gx hw hb2 hb5 c0 c1 c2 c3 c4 c5 c6 x0 hb1
        rintro V ⟨g2, gx, g5, g6, hw⟩
        (have a0 := g5.cell 0; have a1 := g5.cell 1; have a2 := g5.cell 2; have b0 := g6.cell 0; have b1 := g6.cell 1; have b2 := g6.cell 2; have c6 := g2.cell 6; have x0 := gx.cell 0; have x1 := gx.cell 1; have x2 := gx.cell 2; have x3 := gx.cell 3; simp at a0 a1 a2 b0 b1 b2 c6 x0 x1 x2 x3)
        have hS : ∀ W, Below V.heap.size V W → W.cell? ⟨b5 + 1, 0, none⟩ = some (.int .i64 m) ∧ W.cell? ⟨b5 + 1, 1, none⟩ = some (.int .i64 y) ∧ W.cell? ⟨b5 + 1, 2, none⟩ = some (.int .i64 s) ∧ W.cell? ⟨w.heap.size + 1, 0, none⟩ = some (.int .i64 y0) ∧ W.cell? ⟨w.heap.size + 1, 1, none⟩ = some (.int .i64 m0) := fun W hW => by
          have g6 := g6.below hW g6.lt; have gx := gx.below hW gx.lt
          have b0 := g6.cell 0; have b1 := g6.cell 1; have b2 := g6.cell 2; have x0 := gx.cell 0; have x1 := gx.cell 1
          simp at b0 b1 b2 x0 x1
          exact ⟨b0, b1, b2, x0, x1⟩
        (clear a0 a1 a2 b0 b1 b2 c6 x0 x1 x2 x3)
        refine' wp_region_planE [.eff, .eff, .eff, .eff, .eff, .eff, .eff, .eff, .eff] [Det _, Det _, Det _, Det (.int .i64 F1), Det _, Det _, Det _, Det _, Det _] [(8, 8), (7, 32), (6, 31), (5, 30), (4, 29), (3, 28), (2, 27), (1, 26), (0, 25)] (by kernel_rfl) (by kernel_rfl) (by kernel_rfl) (by kernel_rfl) (by kernel_rfl) (by kernel_rfl) (by kernel_rfl) ?hp6a ?hend6a ?hst6a
        case hst6a => exact ⟨det_stays, det_stays, det_stays, det_stays, det_stays, det_stays, det_stays, det_stays, det_stays, trivial⟩
        case hp6a =>
          refine And.intro ⟨[], by kernel_rfl, fun xs W hW hf K hK => opV_free rfl ?_⟩ ?_
          focus (have hs := hS W hW; (try simp only [factsL] at hf); (try simp only [putL]); (try simp only [hf]); go_simp; refine hK.out _ _ (Below.refl _ _) ?_; unfold Det; rfl)
          refine And.intro ⟨[], by kernel_rfl, fun xs W hW hf K hK => opV_free rfl ?_⟩ ?_
          focus (have hs := hS W hW; (try simp only [factsL] at hf); (try simp only [putL]); (try simp only [hf]); go_simp; refine hK.out _ _ (Below.refl _ _) ?_; unfold Det; rfl)
          refine And.intro ⟨[(1, 26)], by kernel_rfl, fun xs W hW hf K hK => opV_free rfl ?_⟩ ?_
          focus (have hs := hS W hW; (try simp only [factsL, pickF, Det, and_true] at hf); (try simp only [putL, Act.put, List.setIfInBounds_toArray, List.set_cons_zero, List.set_cons_succ]); (try simp only [hf]); go_simp; refine hK.out _ _ (Below.refl _ _) ?_; unfold Det; rfl)
          refine And.intro ⟨[(2, 27), (0, 25)], by kernel_rfl, fun xs W hW hf K hK => opV_free rfl ?_⟩ ?_
          focus (simp only [factsL, pickF, Det, and_true] at hf; (try simp only [putL, Act.put, List.setIfInBounds_toArray, List.set_cons_zero, List.set_cons_succ]); (try simp only [hf]); go_simp; refine (HF1.out _).mono ?_; rintro _ w9 ⟨rfl, hbw⟩; exact ⟨_, rfl, hK.out _ _ hbw rfl⟩)
          refine And.intro ⟨[], by kernel_rfl, fun xs W hW hf K hK => opV_free rfl ?_⟩ ?_
          focus (have hs := hS W hW; (try simp only [factsL] at hf); (try simp only [putL]); (try simp only [hf]); go_simp; refine hK.out _ _ (Below.refl _ _) ?_; unfold Det; rfl)
          refine And.intro ⟨[(4, 29)], by kernel_rfl, fun xs W hW hf K hK => opV_free rfl ?_⟩ ?_
          focus (have hs := hS W hW; (try simp only [factsL, pickF, Det, and_true] at hf); (try simp only [putL, Act.put, List.setIfInBounds_toArray, List.set_cons_zero, List.set_cons_succ]); (try simp only [hf]); go_simp; refine hK.out _ _ (Below.refl _ _) ?_; unfold Det; rfl)
          refine And.intro ⟨[(5, 30), (3, 28)], by kernel_rfl, fun xs W hW hf K hK => opV_free rfl ?_⟩ ?_
          focus (have hs := hS W hW; (try simp only [factsL, pickF, Det, and_true] at hf); (try simp only [putL, Act.put, List.setIfInBounds_toArray, List.set_cons_zero, List.set_cons_succ]); (try simp only [hf]); go_simp; refine hK.out _ _ (Below.refl _ _) ?_; unfold Det; rfl)
          refine And.intro ⟨[(6, 31)], by kernel_rfl, fun xs W hW hf K hK => opV_free rfl ?_⟩ ?_
          focus (have hs := hS W hW; (try simp only [factsL, pickF, Det, and_true] at hf); (try simp only [putL, Act.put, List.setIfInBounds_toArray, List.set_cons_zero, List.set_cons_succ]); (try simp only [hf]); go_simp; refine hK.out _ _ (Below.refl _ _) ?_; unfold Det; rfl)
          refine And.intro ⟨[(7, 32)], by kernel_rfl, fun xs W hW hf K hK => opV_free rfl ?_⟩ ?_
          focus (have hs := hS W hW; (try simp only [factsL, pickF, Det, and_true] at hf); (try simp only [putL, Act.put, List.setIfInBounds_toArray, List.set_cons_zero, List.set_cons_succ]); (try simp only [hf]); go_simp; refine hK.out _ _ (Below.refl _ _) ?_; unfold Det; rfl)
          trivial
        intro xs W6 hW6 hf
        simp only [factsA, Det, Nat.zero_add, Nat.reduceAdd, and_true] at hf
        (simp only [putL, Act.put, List.setIfInBounds_toArray, List.set_cons_zero, List.set_cons_succ])
        simp only [hf]
        clear hf
        clear xs
        have hw := bl2 hw hW6
        have g2 := g2.below hW6 g2.lt; have gx := gx.below hW6 gx.lt; have g5 := g5.below hW6 g5.lt; have g6 := g6.below hW6 g6.lt
        clear hW6 hS
        have hS : ∀ W, Below W6.heap.size W6 W → W.cell? ⟨b5 + 1, 0, none⟩ = some (.int .i64 m) ∧ W.cell? ⟨b5 + 1, 1, none⟩ = some (.int .i64 y) ∧ W.cell? ⟨b5 + 1, 2, none⟩ = some (.int .i64 s) ∧ W.cell? ⟨w.heap.size + 1, 0, none⟩ = some (.int .i64 y0) ∧ W.cell? ⟨w.heap.size + 1, 1, none⟩ = some (.int .i64 m0) := fun W hW => by
          have g6 := g6.below hW g6.lt; have gx := gx.below hW gx.lt
          have b0 := g6.cell 0; have b1 := g6.cell 1; have b2 := g6.cell 2; have x0 := gx.cell 0; have x1 := gx.cell 1
          simp at b0 b1 b2 x0 x1
          exact ⟨b0, b1, b2, x0, x1⟩
        go_upto_region 7 with fail
        refine' wp_region_planE [.eff, .eff, .eff, .eff, .eff, .eff, .eff, .eff, .eff, .eff, .eff, .eff] [Det _, Det _, Det _, Det _, Det (.int .i64 F2), Det _, Det _, Det _, Det (.int .i64 F1), Det _, Det _, Det _] [(11, 9), (10, 43), (9, 42), (8, 41), (7, 40), (6, 39), (5, 38), (4, 37), (3, 36), (2, 35), (1, 34), (0, 33)] (by kernel_rfl) (by kernel_rfl) (by kernel_rfl) (by kernel_rfl) (by kernel_rfl) (by kernel_rfl) (by kernel_rfl) ?hp7a ?hend7a ?hst7a
        case hst7a => exact ⟨det_stays, det_stays, det_stays, det_stays, det_stays, det_stays, det_stays, det_stays, det_stays, det_stays, det_stays, det_stays, trivial⟩
        case hp7a =>
          refine And.intro ⟨[], by kernel_rfl, fun xs W hW hf K hK => opV_free rfl ?_⟩ ?_
          focus (have hs := hS W hW; (try simp only [factsL] at hf); (try simp only [putL]); (try simp only [hf]); go_simp; refine hK.out _ _ (Below.refl _ _) ?_; unfold Det; rfl)
          refine And.intro ⟨[], by kernel_rfl, fun xs W hW hf K hK => opV_free rfl ?_⟩ ?_
          focus (have hs := hS W hW; (try simp only [factsL] at hf); (try simp only [putL]); (try simp only [hf]); go_simp; refine hK.out _ _ (Below.refl _ _) ?_; unfold Det; rfl)
          refine And.intro ⟨[(1, 34)], by kernel_rfl, fun xs W hW hf K hK => opV_free rfl ?_⟩ ?_
          focus (have hs := hS W hW; (try simp only [factsL, pickF, Det, and_true] at hf); (try simp only [putL, Act.put, List.setIfInBounds_toArray, List.set_cons_zero, List.set_cons_succ]); (try simp only [hf]); go_simp; refine hK.out _ _ (Below.refl _ _) ?_; unfold Det; rfl)
          refine And.intro ⟨[(2, 35)], by kernel_rfl, fun xs W hW hf K hK => opV_free rfl ?_⟩ ?_
          focus (have hs := hS W hW; (try simp only [factsL, pickF, Det, and_true] at hf); (try simp only [putL, Act.put, List.setIfInBounds_toArray, List.set_cons_zero, List.set_cons_succ]); (try simp only [hf]); go_simp; refine hK.out _ _ (Below.refl _ _) ?_; unfold Det; rfl)
          refine And.intro ⟨[(3, 36), (0, 33)], by kernel_rfl, fun xs W hW hf K hK => opV_free rfl ?_⟩ ?_
          focus (simp only [factsL, pickF, Det, and_true] at hf; (try simp only [putL, Act.put, List.setIfInBounds_toArray, List.set_cons_zero, List.set_cons_succ]); (try simp only [hf]); go_simp; refine (HF2.out _).mono ?_; rintro _ w9 ⟨rfl, hbw⟩; exact ⟨_, rfl, hK.out _ _ hbw rfl⟩)
          refine And.intro ⟨[], by kernel_rfl, fun xs W hW hf K hK => opV_free rfl ?_⟩ ?_
          focus (have hs := hS W hW; (try simp only [factsL] at hf); (try simp only [putL]); (try simp only [hf]); go_simp; refine hK.out _ _ (Below.refl _ _) ?_; unfold Det; rfl)
          refine And.intro ⟨[], by kernel_rfl, fun xs W hW hf K hK => opV_free rfl ?_⟩ ?_
          focus (have hs := hS W hW; (try simp only [factsL] at hf); (try simp only [putL]); (try simp only [hf]); go_simp; refine hK.out _ _ (Below.refl _ _) ?_; unfold Det; rfl)
          refine And.intro ⟨[(6, 39)], by kernel_rfl, fun xs W hW hf K hK => opV_free rfl ?_⟩ ?_
          focus (have hs := hS W hW; (try simp only [factsL, pickF, Det, and_true] at hf); (try simp only [putL, Act.put, List.setIfInBounds_toArray, List.set_cons_zero, List.set_cons_succ]); (try simp only [hf]); go_simp; refine hK.out _ _ (Below.refl _ _) ?_; unfold Det; rfl)
          refine And.intro ⟨[(7, 40), (5, 38)], by kernel_rfl, fun xs W hW hf K hK => opV_free rfl ?_⟩ ?_
          focus (simp only [factsL, pickF, Det, and_true] at hf; (try simp only [putL, Act.put, List.setIfInBounds_toArray, List.set_cons_zero, List.set_cons_succ]); (try simp only [hf]); go_simp; refine (HF1.out _).mono ?_; rintro _ w9 ⟨rfl, hbw⟩; exact ⟨_, rfl, hK.out _ _ hbw rfl⟩)
          refine And.intro ⟨[(8, 41), (4, 37)], by kernel_rfl, fun xs W hW hf K hK => opV_free rfl ?_⟩ ?_
          focus (have hs := hS W hW; (try simp only [factsL, pickF, Det, and_true] at hf); (try simp only [putL, Act.put, List.setIfInBounds_toArray, List.set_cons_zero, List.set_cons_succ]); (try simp only [hf]); go_simp; refine hK.out _ _ (Below.refl _ _) ?_; unfold Det; rfl)
          refine And.intro ⟨[(9, 42)], by kernel_rfl, fun xs W hW hf K hK => opV_free rfl ?_⟩ ?_
          focus (have hs := hS W hW; (try simp only [factsL, pickF, Det, and_true] at hf); (try simp only [putL, Act.put, List.setIfInBounds_toArray, List.set_cons_zero, List.set_cons_succ]); (try simp only [hf]); go_simp; refine hK.out _ _ (Below.refl _ _) ?_; unfold Det; rfl)
          refine And.intro ⟨[(10, 43)], by kernel_rfl, fun xs W hW hf K hK => opV_free rfl ?_⟩ ?_
          focus (have hs := hS W hW; (try simp only [factsL, pickF, Det, and_true] at hf); (try simp only [putL, Act.put, List.setIfInBounds_toArray, List.set_cons_zero, List.set_cons_succ]); (try simp only [hf]); go_simp; refine hK.out _ _ (Below.refl _ _) ?_; unfold Det; rfl)
          trivial
        intro xs W7 hW7 hf
        simp only [factsA, Det, Nat.zero_add, Nat.reduceAdd, and_true] at hf
        (simp only [putL, Act.put, List.setIfInBounds_toArray, List.set_cons_zero, List.set_cons_succ])
        simp only [hf]
        clear hf
        clear xs
        have hw := bl2 hw hW7
        have g2 := g2.below hW7 g2.lt; have gx := gx.below hW7 gx.lt; have g5 := g5.below hW7 g5.lt; have g6 := g6.below hW7 g6.lt
        clear hW7 hS
        rw [← HLG2.out]
        (have a0 := g5.cell 0; have a1 := g5.cell 1; have a2 := g5.cell 2; have b0 := g6.cell 0; have b1 := g6.cell 1; have b2 := g6.cell 2; have c6 := g2.cell 6; have x0 := gx.cell 0; have x1 := gx.cell 1; have x2 := gx.cell 2; have x3 := gx.cell 3; simp at a0 a1 a2 b0 b1 b2 c6 x0 x1 x2 x3)
        go_upto_region 8 with fail
        rename World => W1
        go_cut [55] (fun s55 wx => s55 = .bool (lg && (gt || k0)) ∧ wx = W1)
        case first =>
          have hgt := HGT.out
          clear HGT HLG2 HLG
          (try clear HMN)
          (try clear HMN' HBD)
          cases lg <;> cases gt <;> cases k0
          all_goals (
            go_wp2_with fail
            go_meet
            exact ⟨rfl, rfl⟩)
        case rest =>
          obtain ⟨rfl, rfl⟩ := hcut
          obtain ⟨B, hB⟩ : ∃ B, B = (lg && (gt || k0)) := ⟨_, rfl⟩
          rw [← hB]
          clear hB
          cases B
          all_goals (
            go_upto_region 10 with fail
            (refine wp_region_ext (by kernel_rfl) (by kernel_rfl) ?_; (repeat (go_big_quiet_step((go_at_call 61; with_reducible exact Calls.ext_same (HMV.out _))))); with_reducible refine wpQuiet_nil ?_; intro w1 hw1; have hb1 := ext_below hw1; clear hw1)
            go_wp2_with fail
            refine bodyPost_ret (v := .tuple #[.int .i64 0, .int .i64 7]) (by simp [results, Try.results47, go_sem]) rfl ?_
            rw [HT.out]; exact ⟨rfl, bl2 hw hb1⟩)
      | true =>
        have HMV := Lib.hid (fun W => within_val hm W)
        obtain ⟨hm1, hm2⟩ := inB_iff.1 hm
        obtain ⟨N1, hN1⟩ : ∃ N, N = F1 + m0 - 1 := ⟨_, rfl⟩
        obtain ⟨N2, hN2⟩ : ∃ N, N = N1 + 1 := ⟨_, rfl⟩
        have hMb : MM = N1 ∨ MM = N2 := by rw [HMN.out]; split <;> omega
        obtain ⟨q1, q2⟩ := BI_bd ok (n := MM) (by omega) (by omega)
        obtain ⟨q3, q4⟩ := BI_bd ok (n := MM + 1) (by omega) (by omega)
        simp only at q1 q3
        obtain ⟨B1, hB1⟩ : ∃ B, B = BI ⟨d, p, f, m, y, s, l⟩ MM := ⟨_, rfl⟩
        obtain ⟨B2, hB2⟩ : ∃ B, B = BI ⟨d, p, f, m, y, s, l⟩ (MM + 1) := ⟨_, rfl⟩
        have HB1 := Lib.hid (fun W => (by have h := wheelAt_any d p f MM W (by omega) q1.1 (by omega) (by omega) (by omega); rw [show atW d p f MM = B1 from hB1.symm] at h; exact h : Calls Try.prog 86 #[.agg #[.int .i64 d, .int .i64 p, .int .i64 f], .int .i64 MM] W fun e w' => e = .returned (.int .i64 B1) ∧ Below W.heap.size W w'))
        have HB2 := Lib.hid (fun W => (by have h := wheelAt_any d p f (MM + 1) W (by omega) q3.1 (by omega) (by omega) (by omega); rw [show atW d p f (MM + 1) = B2 from hB2.symm] at h; exact h : Calls Try.prog 86 #[.agg #[.int .i64 d, .int .i64 p, .int .i64 f], .int .i64 (MM + 1)] W fun e w' => e = .returned (.int .i64 B2) ∧ Below W.heap.size W w'))
        have HBD : Hid (ldayR ⟨d, p, f, m, y, s, l⟩ ⟨y0, m0, d0, k0⟩ = if (k0 && (!lg || m0 != l)) || !(inB d0 1 (B2 - B1)) then (0, 7) else (if inB (B1 + d0 - 1) 0 1000000 then (B1 + d0 - 1, 0) else (0, 3))) := (by
          rw [HHR.out]; unfold badL; simp only [hm, Bool.not_true, Bool.false_or, HLG.out]; rw [← HMMe.out, ← hB1, ← hB2] : ldayR _ _ = _)
        rw [← hB1] at q2
        rw [← hB2] at q4
        have HMN' : Hid (MM = if lg && (gt || k0) then N2 else N1) := (by rw [HMN.out, hN2, hN1] : MM = _)
        have e1 : IntKind.i64.wrap (F1 + m0) = F1 + m0 := IntWalk.i64_in _ ⟨by omega, by omega⟩
        have e2 : IntKind.i64.wrap (F1 + m0 - 1) = N1 := by rw [← hN1]; exact IntWalk.i64_in _ ⟨by omega, by omega⟩
        have e3 : IntKind.i64.wrap (N1 + 1) = N2 := by rw [← hN2]; exact IntWalk.i64_in _ ⟨by omega, by omega⟩
        have e4 : IntKind.i64.wrap (MM + 1) = MM + 1 := IntWalk.i64_in _ ⟨by omega, by omega⟩
        have e5 : IntKind.i64.wrap (B2 - B1) = B2 - B1 := IntWalk.i64_in _ ⟨by omega, by omega⟩
        clear hN1 hN2 hB1 hB2 hm HMMe HHR HMN ok q1 q3 hMb
        go_enter Try.func47, Try.ntmps47
        go_upto_region 5 with (first | (go_at_call 73; refine (HSV.out _).mono ?_; rintro _ V1 ⟨rfl, hb1⟩; have g2 : Blk V1 w.heap.size #[.int .i64 d, .int .i64 p, .int .i64 f, .int .i64 m, .int .i64 y, .int .i64 s, .int .i64 l] 26 := ((Blk.at_ rfl).alloc _).below hb1 (by first | omega | (simp; omega) | (simp; done)); have gx : Blk V1 (w.heap.size + 1) #[.int .i64 y0, .int .i64 m0, .int .i64 d0, .bool k0] 77 := (Blk.at_ (by simp)).below hb1 (by first | omega | (simp; omega) | (simp; done)); have hw : Below w.heap.size w V1 := bl2 (by (repeat (first | exact Below.refl _ _ | assumption | (refine Below.alloc ?_ (by first | omega | (simp; omega) | (simp; done)) _) | (refine Below.setCell ?_ (by first | omega | (simp; omega) | (simp; done)) _) | (refine Below.drew ?_) | (refine belowN ?_ _) | (refine Below.trans ?_ (Below.mono ‹Below _ _ _› (by first | omega | (simp; omega) | (simp; done))))))) hb1; have c0 := g2.cell 0; have c1 := g2.cell 1; have c2 := g2.cell 2; have c3 := g2.cell 3; have c4 := g2.cell 4; have c5 := g2.cell 5; have c6 := g2.cell 6; have x0 := gx.cell 0; simp at c0 c1 c2 c3 c4 c5 c6 x0) | (go_at_call 79; refine (HYV.out _).mono ?_; rintro _ _ ⟨rfl, rfl⟩))
        go_upto_region 6 with (go_at_call 85; refine (wheels_any d p f m y s l _).mono ?_; rintro _ V2 ⟨rfl, hb2⟩)
        obtain ⟨b5, hb5⟩ : ∃ b, b = V2.heap.size := ⟨_, rfl⟩
        refine gen_w (fun W => Blk W w.heap.size #[.int .i64 d, .int .i64 p, .int .i64 f, .int .i64 m, .int .i64 y, .int .i64 s, .int .i64 l] 26 ∧ Blk W (w.heap.size + 1) #[.int .i64 y0, .int .i64 m0, .int .i64 d0, .bool k0] 77 ∧ Blk W b5 #[.int .i64 d, .int .i64 p, .int .i64 f] 132 ∧ Blk W (b5 + 1) #[.int .i64 m, .int .i64 y, .int .i64 s] 132 ∧ Below w.heap.size w W) ⟨((g2.below hb2 g2.lt).alloc _).alloc _, ((gx.below hb2 gx.lt).alloc _).alloc _, by rw [hb5]; exact (Blk.new _ _ _).alloc _, by rw [hb5]; exact Blk.at_ (by simp), bla (bla (bl2 hw hb2))⟩ ?_
        rw [← hb5]
        clear g2 gx hw hb2 hb5 c0 c1 c2 c3 c4 c5 c6 x0 hb1
        rintro V ⟨g2, gx, g5, g6, hw⟩
        (have a0 := g5.cell 0; have a1 := g5.cell 1; have a2 := g5.cell 2; have b0 := g6.cell 0; have b1 := g6.cell 1; have b2 := g6.cell 2; have c6 := g2.cell 6; have x0 := gx.cell 0; have x1 := gx.cell 1; have x2 := gx.cell 2; have x3 := gx.cell 3; simp at a0 a1 a2 b0 b1 b2 c6 x0 x1 x2 x3)
        have hS : ∀ W, Below V.heap.size V W → W.cell? ⟨b5 + 1, 0, none⟩ = some (.int .i64 m) ∧ W.cell? ⟨b5 + 1, 1, none⟩ = some (.int .i64 y) ∧ W.cell? ⟨b5 + 1, 2, none⟩ = some (.int .i64 s) ∧ W.cell? ⟨w.heap.size + 1, 0, none⟩ = some (.int .i64 y0) ∧ W.cell? ⟨w.heap.size + 1, 1, none⟩ = some (.int .i64 m0) := fun W hW => by
          have g6 := g6.below hW g6.lt; have gx := gx.below hW gx.lt
          have b0 := g6.cell 0; have b1 := g6.cell 1; have b2 := g6.cell 2; have x0 := gx.cell 0; have x1 := gx.cell 1
          simp at b0 b1 b2 x0 x1
          exact ⟨b0, b1, b2, x0, x1⟩
        (clear a0 a1 a2 b0 b1 b2 c6 x0 x1 x2 x3)
        refine' wp_region_planE [.eff, .eff, .eff, .eff, .eff, .eff, .eff, .eff, .eff] [Det _, Det _, Det _, Det (.int .i64 F1), Det _, Det _, Det _, Det _, Det _] [(8, 8), (7, 32), (6, 31), (5, 30), (4, 29), (3, 28), (2, 27), (1, 26), (0, 25)] (by kernel_rfl) (by kernel_rfl) (by kernel_rfl) (by kernel_rfl) (by kernel_rfl) (by kernel_rfl) (by kernel_rfl) ?hp6b ?hend6b ?hst6b
        case hst6b => exact ⟨det_stays, det_stays, det_stays, det_stays, det_stays, det_stays, det_stays, det_stays, det_stays, trivial⟩
        case hp6b =>
          refine And.intro ⟨[], by kernel_rfl, fun xs W hW hf K hK => opV_free rfl ?_⟩ ?_
          focus (have hs := hS W hW; (try simp only [factsL] at hf); (try simp only [putL]); (try simp only [hf]); go_simp; refine hK.out _ _ (Below.refl _ _) ?_; unfold Det; rfl)
          refine And.intro ⟨[], by kernel_rfl, fun xs W hW hf K hK => opV_free rfl ?_⟩ ?_
          focus (have hs := hS W hW; (try simp only [factsL] at hf); (try simp only [putL]); (try simp only [hf]); go_simp; refine hK.out _ _ (Below.refl _ _) ?_; unfold Det; rfl)
          refine And.intro ⟨[(1, 26)], by kernel_rfl, fun xs W hW hf K hK => opV_free rfl ?_⟩ ?_
          focus (have hs := hS W hW; (try simp only [factsL, pickF, Det, and_true] at hf); (try simp only [putL, Act.put, List.setIfInBounds_toArray, List.set_cons_zero, List.set_cons_succ]); (try simp only [hf]); go_simp; refine hK.out _ _ (Below.refl _ _) ?_; unfold Det; rfl)
          refine And.intro ⟨[(2, 27), (0, 25)], by kernel_rfl, fun xs W hW hf K hK => opV_free rfl ?_⟩ ?_
          focus (simp only [factsL, pickF, Det, and_true] at hf; (try simp only [putL, Act.put, List.setIfInBounds_toArray, List.set_cons_zero, List.set_cons_succ]); (try simp only [hf]); go_simp; refine (HF1.out _).mono ?_; rintro _ w9 ⟨rfl, hbw⟩; exact ⟨_, rfl, hK.out _ _ hbw rfl⟩)
          refine And.intro ⟨[], by kernel_rfl, fun xs W hW hf K hK => opV_free rfl ?_⟩ ?_
          focus (have hs := hS W hW; (try simp only [factsL] at hf); (try simp only [putL]); (try simp only [hf]); go_simp; refine hK.out _ _ (Below.refl _ _) ?_; unfold Det; rfl)
          refine And.intro ⟨[(4, 29)], by kernel_rfl, fun xs W hW hf K hK => opV_free rfl ?_⟩ ?_
          focus (have hs := hS W hW; (try simp only [factsL, pickF, Det, and_true] at hf); (try simp only [putL, Act.put, List.setIfInBounds_toArray, List.set_cons_zero, List.set_cons_succ]); (try simp only [hf]); go_simp; refine hK.out _ _ (Below.refl _ _) ?_; unfold Det; rfl)
          refine And.intro ⟨[(5, 30), (3, 28)], by kernel_rfl, fun xs W hW hf K hK => opV_free rfl ?_⟩ ?_
          focus (have hs := hS W hW; (try simp only [factsL, pickF, Det, and_true] at hf); (try simp only [putL, Act.put, List.setIfInBounds_toArray, List.set_cons_zero, List.set_cons_succ]); (try simp only [hf]); go_simp; refine hK.out _ _ (Below.refl _ _) ?_; unfold Det; rfl)
          refine And.intro ⟨[(6, 31)], by kernel_rfl, fun xs W hW hf K hK => opV_free rfl ?_⟩ ?_
          focus (have hs := hS W hW; (try simp only [factsL, pickF, Det, and_true] at hf); (try simp only [putL, Act.put, List.setIfInBounds_toArray, List.set_cons_zero, List.set_cons_succ]); (try simp only [hf]); go_simp; refine hK.out _ _ (Below.refl _ _) ?_; unfold Det; rfl)
          refine And.intro ⟨[(7, 32)], by kernel_rfl, fun xs W hW hf K hK => opV_free rfl ?_⟩ ?_
          focus (have hs := hS W hW; (try simp only [factsL, pickF, Det, and_true] at hf); (try simp only [putL, Act.put, List.setIfInBounds_toArray, List.set_cons_zero, List.set_cons_succ]); (try simp only [hf]); go_simp; refine hK.out _ _ (Below.refl _ _) ?_; unfold Det; rfl)
          trivial
        intro xs W6 hW6 hf
        simp only [factsA, Det, Nat.zero_add, Nat.reduceAdd, and_true] at hf
        (simp only [putL, Act.put, List.setIfInBounds_toArray, List.set_cons_zero, List.set_cons_succ])
        simp only [hf]
        clear hf
        clear xs
        have hw := bl2 hw hW6
        have g2 := g2.below hW6 g2.lt; have gx := gx.below hW6 gx.lt; have g5 := g5.below hW6 g5.lt; have g6 := g6.below hW6 g6.lt
        clear hW6 hS
        have hS : ∀ W, Below W6.heap.size W6 W → W.cell? ⟨b5 + 1, 0, none⟩ = some (.int .i64 m) ∧ W.cell? ⟨b5 + 1, 1, none⟩ = some (.int .i64 y) ∧ W.cell? ⟨b5 + 1, 2, none⟩ = some (.int .i64 s) ∧ W.cell? ⟨w.heap.size + 1, 0, none⟩ = some (.int .i64 y0) ∧ W.cell? ⟨w.heap.size + 1, 1, none⟩ = some (.int .i64 m0) := fun W hW => by
          have g6 := g6.below hW g6.lt; have gx := gx.below hW gx.lt
          have b0 := g6.cell 0; have b1 := g6.cell 1; have b2 := g6.cell 2; have x0 := gx.cell 0; have x1 := gx.cell 1
          simp at b0 b1 b2 x0 x1
          exact ⟨b0, b1, b2, x0, x1⟩
        go_upto_region 7 with fail
        refine' wp_region_planE [.eff, .eff, .eff, .eff, .eff, .eff, .eff, .eff, .eff, .eff, .eff, .eff] [Det _, Det _, Det _, Det _, Det (.int .i64 F2), Det _, Det _, Det _, Det (.int .i64 F1), Det _, Det _, Det _] [(11, 9), (10, 43), (9, 42), (8, 41), (7, 40), (6, 39), (5, 38), (4, 37), (3, 36), (2, 35), (1, 34), (0, 33)] (by kernel_rfl) (by kernel_rfl) (by kernel_rfl) (by kernel_rfl) (by kernel_rfl) (by kernel_rfl) (by kernel_rfl) ?hp7b ?hend7b ?hst7b
        case hst7b => exact ⟨det_stays, det_stays, det_stays, det_stays, det_stays, det_stays, det_stays, det_stays, det_stays, det_stays, det_stays, det_stays, trivial⟩
        case hp7b =>
          refine And.intro ⟨[], by kernel_rfl, fun xs W hW hf K hK => opV_free rfl ?_⟩ ?_
          focus (have hs := hS W hW; (try simp only [factsL] at hf); (try simp only [putL]); (try simp only [hf]); go_simp; refine hK.out _ _ (Below.refl _ _) ?_; unfold Det; rfl)
          refine And.intro ⟨[], by kernel_rfl, fun xs W hW hf K hK => opV_free rfl ?_⟩ ?_
          focus (have hs := hS W hW; (try simp only [factsL] at hf); (try simp only [putL]); (try simp only [hf]); go_simp; refine hK.out _ _ (Below.refl _ _) ?_; unfold Det; rfl)
          refine And.intro ⟨[(1, 34)], by kernel_rfl, fun xs W hW hf K hK => opV_free rfl ?_⟩ ?_
          focus (have hs := hS W hW; (try simp only [factsL, pickF, Det, and_true] at hf); (try simp only [putL, Act.put, List.setIfInBounds_toArray, List.set_cons_zero, List.set_cons_succ]); (try simp only [hf]); go_simp; refine hK.out _ _ (Below.refl _ _) ?_; unfold Det; rfl)
          refine And.intro ⟨[(2, 35)], by kernel_rfl, fun xs W hW hf K hK => opV_free rfl ?_⟩ ?_
          focus (have hs := hS W hW; (try simp only [factsL, pickF, Det, and_true] at hf); (try simp only [putL, Act.put, List.setIfInBounds_toArray, List.set_cons_zero, List.set_cons_succ]); (try simp only [hf]); go_simp; refine hK.out _ _ (Below.refl _ _) ?_; unfold Det; rfl)
          refine And.intro ⟨[(3, 36), (0, 33)], by kernel_rfl, fun xs W hW hf K hK => opV_free rfl ?_⟩ ?_
          focus (simp only [factsL, pickF, Det, and_true] at hf; (try simp only [putL, Act.put, List.setIfInBounds_toArray, List.set_cons_zero, List.set_cons_succ]); (try simp only [hf]); go_simp; refine (HF2.out _).mono ?_; rintro _ w9 ⟨rfl, hbw⟩; exact ⟨_, rfl, hK.out _ _ hbw rfl⟩)
          refine And.intro ⟨[], by kernel_rfl, fun xs W hW hf K hK => opV_free rfl ?_⟩ ?_
          focus (have hs := hS W hW; (try simp only [factsL] at hf); (try simp only [putL]); (try simp only [hf]); go_simp; refine hK.out _ _ (Below.refl _ _) ?_; unfold Det; rfl)
          refine And.intro ⟨[], by kernel_rfl, fun xs W hW hf K hK => opV_free rfl ?_⟩ ?_
          focus (have hs := hS W hW; (try simp only [factsL] at hf); (try simp only [putL]); (try simp only [hf]); go_simp; refine hK.out _ _ (Below.refl _ _) ?_; unfold Det; rfl)
          refine And.intro ⟨[(6, 39)], by kernel_rfl, fun xs W hW hf K hK => opV_free rfl ?_⟩ ?_
          focus (have hs := hS W hW; (try simp only [factsL, pickF, Det, and_true] at hf); (try simp only [putL, Act.put, List.setIfInBounds_toArray, List.set_cons_zero, List.set_cons_succ]); (try simp only [hf]); go_simp; refine hK.out _ _ (Below.refl _ _) ?_; unfold Det; rfl)
          refine And.intro ⟨[(7, 40), (5, 38)], by kernel_rfl, fun xs W hW hf K hK => opV_free rfl ?_⟩ ?_
          focus (simp only [factsL, pickF, Det, and_true] at hf; (try simp only [putL, Act.put, List.setIfInBounds_toArray, List.set_cons_zero, List.set_cons_succ]); (try simp only [hf]); go_simp; refine (HF1.out _).mono ?_; rintro _ w9 ⟨rfl, hbw⟩; exact ⟨_, rfl, hK.out _ _ hbw rfl⟩)
          refine And.intro ⟨[(8, 41), (4, 37)], by kernel_rfl, fun xs W hW hf K hK => opV_free rfl ?_⟩ ?_
          focus (have hs := hS W hW; (try simp only [factsL, pickF, Det, and_true] at hf); (try simp only [putL, Act.put, List.setIfInBounds_toArray, List.set_cons_zero, List.set_cons_succ]); (try simp only [hf]); go_simp; refine hK.out _ _ (Below.refl _ _) ?_; unfold Det; rfl)
          refine And.intro ⟨[(9, 42)], by kernel_rfl, fun xs W hW hf K hK => opV_free rfl ?_⟩ ?_
          focus (have hs := hS W hW; (try simp only [factsL, pickF, Det, and_true] at hf); (try simp only [putL, Act.put, List.setIfInBounds_toArray, List.set_cons_zero, List.set_cons_succ]); (try simp only [hf]); go_simp; refine hK.out _ _ (Below.refl _ _) ?_; unfold Det; rfl)
          refine And.intro ⟨[(10, 43)], by kernel_rfl, fun xs W hW hf K hK => opV_free rfl ?_⟩ ?_
          focus (have hs := hS W hW; (try simp only [factsL, pickF, Det, and_true] at hf); (try simp only [putL, Act.put, List.setIfInBounds_toArray, List.set_cons_zero, List.set_cons_succ]); (try simp only [hf]); go_simp; refine hK.out _ _ (Below.refl _ _) ?_; unfold Det; rfl)
          trivial
        intro xs W7 hW7 hf
        simp only [factsA, Det, Nat.zero_add, Nat.reduceAdd, and_true] at hf
        (simp only [putL, Act.put, List.setIfInBounds_toArray, List.set_cons_zero, List.set_cons_succ])
        simp only [hf]
        clear hf
        clear xs
        have hw := bl2 hw hW7
        have g2 := g2.below hW7 g2.lt; have gx := gx.below hW7 gx.lt; have g5 := g5.below hW7 g5.lt; have g6 := g6.below hW7 g6.lt
        clear hW7 hS
        rw [← HLG2.out]
        (have a0 := g5.cell 0; have a1 := g5.cell 1; have a2 := g5.cell 2; have b0 := g6.cell 0; have b1 := g6.cell 1; have b2 := g6.cell 2; have c6 := g2.cell 6; have x0 := gx.cell 0; have x1 := gx.cell 1; have x2 := gx.cell 2; have x3 := gx.cell 3; simp at a0 a1 a2 b0 b1 b2 c6 x0 x1 x2 x3)
        go_upto_region 8 with fail
        rename World => W1
        go_cut [55] (fun s55 wx => s55 = .bool (lg && (gt || k0)) ∧ wx = W1)
        case first =>
          have hgt := HGT.out
          clear HGT HLG2 HLG
          (try clear HMN)
          (try clear HMN' HBD)
          cases lg <;> cases gt <;> cases k0
          all_goals (
            go_wp2_with fail
            go_meet
            exact ⟨rfl, rfl⟩)
        case rest =>
          obtain ⟨rfl, rfl⟩ := hcut
          obtain ⟨B, hB⟩ : ∃ B, B = (lg && (gt || k0)) := ⟨_, rfl⟩
          rw [← hB] at HMN' ⊢
          clear hB HGT HLG2 HLG
          cases B
          all_goals (
            have hMM := HMN'.out
            simp only [Bool.false_eq_true, if_false, if_true] at hMM
            subst hMM
            clear HMN'
            go_upto_region 10 with fail
            clear e1 e2 e3
            cases k0 with
            | false =>
              cases hdd : inB d0 1 (B2 - B1) with
              | false =>
                have HNV := Lib.hid (fun W => within_val hdd W)
                rw [hdd] at HBD
                clear hdd
                (refine wp_region_ext (by kernel_rfl) (by kernel_rfl) ?_; (repeat (go_big_quiet_step((first | (go_at_call 86; with_reducible exact Calls.ext_of (HB1.out _)) | (go_at_call 86; with_reducible exact Calls.ext_of (HB2.out _)) | (go_at_call 61; with_reducible exact Calls.ext_same (HMV.out _)) | (go_at_call 61; with_reducible exact Calls.ext_same (HNV.out _)))))); with_reducible refine wpQuiet_nil ?_; intro w1 hw1; have hb1 := ext_below hw1; clear hw1)
                go_wp2_with fail
                refine bodyPost_ret (v := .tuple #[.int .i64 0, .int .i64 7]) (by simp [results, Try.results47, go_sem]) rfl ?_
                rw [HBD.out]; exact ⟨rfl, bl2 hw hb1⟩
              | true =>
                have HNV := Lib.hid (fun W => within_val hdd W)
                obtain ⟨z1, z2⟩ := inB_iff.1 hdd
                rw [hdd] at HBD
                clear hdd
                (refine wp_region_ext (by kernel_rfl) (by kernel_rfl) ?_; (repeat (go_big_quiet_step((first | (go_at_call 86; with_reducible exact Calls.ext_of (HB1.out _)) | (go_at_call 86; with_reducible exact Calls.ext_of (HB2.out _)) | (go_at_call 61; with_reducible exact Calls.ext_same (HMV.out _)) | (go_at_call 61; with_reducible exact Calls.ext_same (HNV.out _)))))); with_reducible refine wpQuiet_nil ?_; intro w1 hw1; have hb1 := ext_below hw1; clear hw1)
                have hw := bl2 hw hb1
                have g2 := g2.below hb1 g2.lt; have gx := gx.below hb1 gx.lt; have g5 := g5.below hb1 g5.lt; have g6 := g6.below hb1 g6.lt
                clear hb1
                (clear a0 a1 a2 b0 b1 b2 c6 x0 x1 x2 x3)
                (have a0 := g5.cell 0; have a1 := g5.cell 1; have a2 := g5.cell 2; have b0 := g6.cell 0; have b1 := g6.cell 1; have b2 := g6.cell 2; have c6 := g2.cell 6; have x0 := gx.cell 0; have x1 := gx.cell 1; have x2 := gx.cell 2; have x3 := gx.cell 3; simp at a0 a1 a2 b0 b1 b2 c6 x0 x1 x2 x3)
                have e6 : IntKind.i64.wrap (B1 + d0) = B1 + d0 := IntWalk.i64_in _ ⟨by omega, by omega⟩
                have e7 : IntKind.i64.wrap (B1 + d0 - 1) = B1 + d0 - 1 := IntWalk.i64_in _ ⟨by omega, by omega⟩
                go_upto_region 12 with fail
                (refine wp_region_ext (by kernel_rfl) (by kernel_rfl) ?_; (repeat (go_big_quiet_step((go_at_call 86; with_reducible exact Calls.ext_of (HB1.out _))))); with_reducible refine wpQuiet_nil ?_; intro w1 hw1; have hb1 := ext_below hw1; clear hw1)
                have hw := bl2 hw hb1
                obtain ⟨D, hD⟩ : ∃ D, D = B1 + d0 - 1 := ⟨_, rfl⟩
                rw [← hD] at HBD ⊢
                clear hD
                cases hdy : inB D 0 1000000 with
                | false =>
                  have HDV := Lib.hid (fun W => isDay_val hdy W)
                  rw [hdy] at HBD
                  clear hdy
                  go_wp2_with (go_at_call 68; refine (HDV.out _).mono ?_; rintro _ _ ⟨rfl, rfl⟩)
                  refine bodyPost_ret (v := .tuple #[.int .i64 0, .int .i64 3]) (by simp [results, Try.results47, go_sem]) rfl ?_
                  rw [HBD.out]; exact ⟨rfl, hw⟩
                | true =>
                  have HDV := Lib.hid (fun W => isDay_val hdy W)
                  rw [hdy] at HBD
                  clear hdy
                  go_wp2_with (go_at_call 68; refine (HDV.out _).mono ?_; rintro _ _ ⟨rfl, rfl⟩)
                  refine bodyPost_ret (v := .tuple #[.int .i64 D, .int .i64 0]) (by simp [results, Try.results47, go_sem]) rfl ?_
                  rw [HBD.out]; exact ⟨rfl, hw⟩
            | true =>
              cases lg with
              | false =>
                have HT : Hid (ldayR ⟨d, p, f, m, y, s, l⟩ ⟨y0, m0, d0, true⟩ = (0, 7)) := (by rw [HBD.out]; rfl : ldayR _ _ = _)
                clear HBD
                (refine wp_region_ext (by kernel_rfl) (by kernel_rfl) ?_; (repeat (go_big_quiet_step((go_at_call 61; with_reducible exact Calls.ext_same (HMV.out _))))); with_reducible refine wpQuiet_nil ?_; intro w1 hw1; have hb1 := ext_below hw1; clear hw1)
                go_wp2_with fail
                refine bodyPost_ret (v := .tuple #[.int .i64 0, .int .i64 7]) (by simp [results, Try.results47, go_sem]) rfl ?_
                rw [HT.out]; exact ⟨rfl, bl2 hw hb1⟩
              | true =>
                cases hne : (m0 != l) with
                | true =>
                  rw [hne] at HBD
                  have HT : Hid (ldayR ⟨d, p, f, m, y, s, l⟩ ⟨y0, m0, d0, true⟩ = (0, 7)) := (by rw [HBD.out]; rfl : ldayR _ _ = _)
                  clear HBD
                  (refine wp_region_ext (by kernel_rfl) (by kernel_rfl) ?_; (repeat (go_big_quiet_step((go_at_call 61; with_reducible exact Calls.ext_same (HMV.out _))))); with_reducible refine wpQuiet_nil ?_; intro w1 hw1; have hb1 := ext_below hw1; clear hw1)
                  go_wp2_with fail
                  refine bodyPost_ret (v := .tuple #[.int .i64 0, .int .i64 7]) (by simp [results, Try.results47, go_sem]) rfl ?_
                  rw [HT.out]; exact ⟨rfl, bl2 hw hb1⟩
                | false =>
                  rw [hne] at HBD
                  cases hdd : inB d0 1 (B2 - B1) with
                  | false =>
                    have HNV := Lib.hid (fun W => within_val hdd W)
                    rw [hdd] at HBD
                    clear hdd
                    (refine wp_region_ext (by kernel_rfl) (by kernel_rfl) ?_; (repeat (go_big_quiet_step((first | (go_at_call 86; with_reducible exact Calls.ext_of (HB1.out _)) | (go_at_call 86; with_reducible exact Calls.ext_of (HB2.out _)) | (go_at_call 61; with_reducible exact Calls.ext_same (HMV.out _)) | (go_at_call 61; with_reducible exact Calls.ext_same (HNV.out _)))))); with_reducible refine wpQuiet_nil ?_; intro w1 hw1; have hb1 := ext_below hw1; clear hw1)
                    go_wp2_with fail
                    refine bodyPost_ret (v := .tuple #[.int .i64 0, .int .i64 7]) (by simp [results, Try.results47, go_sem]) rfl ?_
                    rw [HBD.out]; exact ⟨rfl, bl2 hw hb1⟩
                  | true =>
                    have HNV := Lib.hid (fun W => within_val hdd W)
                    obtain ⟨z1, z2⟩ := inB_iff.1 hdd
                    rw [hdd] at HBD
                    clear hdd
                    (refine wp_region_ext (by kernel_rfl) (by kernel_rfl) ?_; (repeat (go_big_quiet_step((first | (go_at_call 86; with_reducible exact Calls.ext_of (HB1.out _)) | (go_at_call 86; with_reducible exact Calls.ext_of (HB2.out _)) | (go_at_call 61; with_reducible exact Calls.ext_same (HMV.out _)) | (go_at_call 61; with_reducible exact Calls.ext_same (HNV.out _)))))); with_reducible refine wpQuiet_nil ?_; intro w1 hw1; have hb1 := ext_below hw1; clear hw1)
                    have hw := bl2 hw hb1
                    have g2 := g2.below hb1 g2.lt; have gx := gx.below hb1 gx.lt; have g5 := g5.below hb1 g5.lt; have g6 := g6.below hb1 g6.lt
                    clear hb1
                    (clear a0 a1 a2 b0 b1 b2 c6 x0 x1 x2 x3)
                    (have a0 := g5.cell 0; have a1 := g5.cell 1; have a2 := g5.cell 2; have b0 := g6.cell 0; have b1 := g6.cell 1; have b2 := g6.cell 2; have c6 := g2.cell 6; have x0 := gx.cell 0; have x1 := gx.cell 1; have x2 := gx.cell 2; have x3 := gx.cell 3; simp at a0 a1 a2 b0 b1 b2 c6 x0 x1 x2 x3)
                    have e6 : IntKind.i64.wrap (B1 + d0) = B1 + d0 := IntWalk.i64_in _ ⟨by omega, by omega⟩
                    have e7 : IntKind.i64.wrap (B1 + d0 - 1) = B1 + d0 - 1 := IntWalk.i64_in _ ⟨by omega, by omega⟩
                    go_upto_region 12 with fail
                    (refine wp_region_ext (by kernel_rfl) (by kernel_rfl) ?_; (repeat (go_big_quiet_step((go_at_call 86; with_reducible exact Calls.ext_of (HB1.out _))))); with_reducible refine wpQuiet_nil ?_; intro w1 hw1; have hb1 := ext_below hw1; clear hw1)
                    have hw := bl2 hw hb1
                    obtain ⟨D, hD⟩ : ∃ D, D = B1 + d0 - 1 := ⟨_, rfl⟩
                    rw [← hD] at HBD ⊢
                    clear hD
                    cases hdy : inB D 0 1000000 with
                    | false =>
                      have HDV := Lib.hid (fun W => isDay_val hdy W)
                      rw [hdy] at HBD
                      clear hdy
                      go_wp2_with (go_at_call 68; refine (HDV.out _).mono ?_; rintro _ _ ⟨rfl, rfl⟩)
                      refine bodyPost_ret (v := .tuple #[.int .i64 0, .int .i64 3]) (by simp [results, Try.results47, go_sem]) rfl ?_
                      rw [HBD.out]; exact ⟨rfl, hw⟩
                    | true =>
                      have HDV := Lib.hid (fun W => isDay_val hdy W)
                      rw [hdy] at HBD
                      clear hdy
                      go_wp2_with (go_at_call 68; refine (HDV.out _).mono ?_; rintro _ _ ⟨rfl, rfl⟩)
                      refine bodyPost_ret (v := .tuple #[.int .i64 D, .int .i64 0]) (by simp [results, Try.results47, go_sem]) rfl ?_
                      rw [HBD.out]; exact ⟨rfl, hw⟩
          )
end Go.Proofs.Ytfbnllmmoaialaa

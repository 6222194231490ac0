/- The reference: Either. -/
import Derived.Test.YtmfbiohdmhbkoaaRn
import Derived.Test.YtmfbiohdmhbkoaaGy
namespace Go.Proofs.Ytmfbiohdmhbkoaa
open Go.RowKit

set_option maxRecDepth 100000 in
set_option maxHeartbeats 8000000 in
theorem reither_any (n d p q : Int) (w : World) : Calls Try.prog 49 #[.agg #[.int .i64 n, .int .i64 d], .agg #[.int .i64 p, .int .i64 q]] w (RetC (eitherR ⟨n, d⟩ ⟨p, q⟩) w) := by
  have HA := Lib.hid (fun W => rchanceB_any n d W)
  have HB := Lib.hid (fun W => rchanceB_any p q W)
  by_cases ok1 : okC ⟨n, d⟩ = true
  · by_cases ok2 : okC ⟨p, q⟩ = true
    · have okp : okP ⟨n, d⟩ ⟨p, q⟩ = true := by unfold okP; rw [ok1, ok2]; rfl
      have O1 := okC_iff.1 ok1; have O2 := okC_iff.1 ok2
      have HN : Hid (∀ W : World, Calls Try.prog 48 #[.agg #[.int .i64 p, .int .i64 q]] W fun e w' => e = .returned (.tuple #[.agg #[.int .i64 (q - p), .int .i64 q], .int .i64 0]) ∧ Below W.heap.size W w') := (fun W => by
        have h := rnot_any p q W
        rw [show notR ⟨p, q⟩ = (q - p, q, 0) by unfold notR; rw [if_pos ok2]] at h
        exact h : ∀ W : World, _)
      have HC := Lib.hid (fun W => rcompare_any n d (q - p) q W O1 (okC_not O2))
      have HT0 : Hid (eitherR ⟨n, d⟩ ⟨p, q⟩ = if (q - p) * d < n * q then (0, 0, 3) else if eP ⟨n, d⟩ ⟨p, q⟩ * eQ ⟨n, d⟩ ⟨p, q⟩ ≤ 1000000000000000 ∧ eD ⟨n, d⟩ ⟨p, q⟩ ≤ 1000000000000000 then (eN ⟨n, d⟩ ⟨p, q⟩ / eH ⟨n, d⟩ ⟨p, q⟩, eD ⟨n, d⟩ ⟨p, q⟩, 0) else (0, 0, 10)) := (by unfold eitherR; rw [if_pos okp] : eitherR ⟨n, d⟩ ⟨p, q⟩ = _)
      rw [ok1] at HA
      rw [ok2] at HB
      have hcz := cmp_gt (x := n * q) (y := (q - p) * d)
      obtain ⟨z, hz⟩ : ∃ z, z = cmpI (n * q) ((q - p) * d) := ⟨_, rfl⟩
      rw [← hz] at HC hcz
      clear hz ok1 ok2 okp
      by_cases hgt : (q - p) * d < n * q
      · have HT : Hid (eitherR ⟨n, d⟩ ⟨p, q⟩ = (0, 0, 3)) := (by rw [HT0.out, if_pos hgt] : eitherR ⟨n, d⟩ ⟨p, q⟩ = _)
        have ez : decide (0 < z) = true := by rw [hcz]; simpa using hgt
        clear hcz hgt O1 O2
        go_enter Try.func49, Try.ntmps49
        go_upto_region 3 with (first | (go_at_call 45; have _ := hb1; (with_reducible refine (HB.out _).mono ?_); rintro _ w2 ⟨rfl, hb2⟩) | (go_at_call 45; (with_reducible refine (HA.out _).mono ?_); rintro _ w1 ⟨rfl, hb1⟩; have g0 : Blk w1 w.heap.size #[.int .i64 n, .int .i64 d] 51 := (((Blk.at_ rfl).alloc _).alloc _).below hb1 (by first | omega | (simp; omega) | (simp; done)); have g1 : Blk w1 (w.heap.size + 1) #[.int .i64 p, .int .i64 q] 51 := ((Blk.at_ (by simp)).alloc _).below hb1 (by first | omega | (simp; omega) | (simp; done)); have g2 : Blk w1 (w.heap.size + 1 + 1) #[.int .i64 0, .int .i64 0] 51 := (Blk.at_ (by simp)).below hb1 (by first | omega | (simp; omega) | (simp; done)); have hw1 : Below w.heap.size w w1 := (by (repeat (first | exact Below.refl _ _ | assumption | (refine Below.alloc ?_ (by first | omega | (simp; omega) | (simp; done)) _) | (refine Below.setCell ?_ (by first | omega | (simp; omega) | (simp; done)) _) | (refine Below.drew ?_) | (refine belowN ?_ _) | (refine Below.trans ?_ (Below.mono ‹Below _ _ _› (by first | omega | (simp; omega) | (simp; done))))))); have c2 := g1.cell 0; have c3 := g1.cell 1; simp at c2 c3))
        have g0 := g0.below hb2 g0.lt; have g1 := g1.below hb2 g1.lt; have g2 := g2.below hb2 g2.lt
        have hw2 := bl2 hw1 hb2
        have c0 := g0.cell 0; have c1 := g0.cell 1; have c2 := g1.cell 0; have c3 := g1.cell 1
        simp at c0 c1 c2 c3
        clear hb2 hw1
        clear hb1
        go_upto_region 4 with (go_at_call 48; refine (HN.out _).mono ?_; rintro _ w3 ⟨rfl, hb3⟩)
        have g0 := g0.below hb3 g0.lt; have g1 := g1.below hb3 g1.lt; have g2 := g2.below hb3 g2.lt
        have hw3 := bl2 hw2 hb3
        have c0 := g0.cell 0; have c1 := g0.cell 1; have c2 := g1.cell 0; have c3 := g1.cell 1
        simp at c0 c1 c2 c3
        clear hb3 hw2
        obtain ⟨B3, hB3⟩ : ∃ b, b = w3.heap.size := ⟨_, rfl⟩
        refine gen_w (fun W => Blk W w.heap.size #[.int .i64 n, .int .i64 d] 51 ∧ Blk W (w.heap.size + 1) #[.int .i64 p, .int .i64 q] 51 ∧ Blk W (w.heap.size + 1 + 1) #[.int .i64 0, .int .i64 0] 51 ∧ Blk W B3 #[.int .i64 (q - p), .int .i64 q] 51 ∧ Below w.heap.size w W) ⟨g0.alloc _, g1.alloc _, g2.alloc _, Blk.at_ hB3, hw3.alloc hw3.size _⟩ ?_
        rw [← hB3]
        clear hB3 g0 g1 g2 c0 c1 c2 c3 hw3
        clear w3
        rintro w3 ⟨g0, g1, g2, g3, hw3⟩
        have c0 := g0.cell 0; have c1 := g0.cell 1; have c2 := g1.cell 0; have c3 := g1.cell 1; have c6 := g3.cell 0; have c7 := g3.cell 1
        simp at c0 c1 c2 c3 c6 c7
        refine Hid.out ?_
        refine Lib.hid ?_
        go_wp2_with (go_at_call 46; refine (HC.out _).mono ?_; rintro _ w4 ⟨rfl, hb4⟩; refine Hid.out ?_)
        clear g3 c6 c7
        have g0 := g0.below hb4 g0.lt; have g1 := g1.below hb4 g1.lt; have g2 := g2.below hb4 g2.lt
        have hw4 := bl2 hw3 hb4
        have c0 := g0.cell 0; have c1 := g0.cell 1; have c2 := g1.cell 0; have c3 := g1.cell 1
        simp at c0 c1 c2 c3
        clear hb4 hw3
        have hz := g2.lt
        have c4 := g2.cell 0; have c5 := g2.cell 1; have f0 := g2.free 0; have f1 := g2.free 1
        simp at c4 c5
        refine Lib.hid ?_
        go_wp2
        refine gen_w (fun W => Blk W (w.heap.size + 1 + 1) #[.int .i64 0, .int .i64 0] 51 ∧ Below w.heap.size w W) ⟨(Blk.set2r g2 _ _), by (repeat (first | exact Below.refl _ _ | assumption | (refine Below.alloc ?_ (by first | omega | (simp; omega) | (simp; done)) _) | (refine Below.setCell ?_ (by first | omega | (simp; omega) | (simp; done)) _) | (refine Below.drew ?_) | (refine belowN ?_ _) | (refine Below.trans ?_ (Below.mono ‹Below _ _ _› (by first | omega | (simp; omega) | (simp; done))))))⟩ ?_
        rintro W ⟨gW, hW⟩
        have q0 := gW.cell 0; have q1 := gW.cell 1
        simp at q0 q1
        exact bodyPost_ret (v := .tuple #[.agg #[.int .i64 0, .int .i64 0], .int .i64 3]) (by simp [results, Try.results49, go_sem, q0, q1]) rfl ⟨by rw [HT.out], hW⟩
      · have ez : decide (0 < z) = false := by rw [hcz]; simpa using hgt
        have ef := ef_of O1 O2
        have hfin := either_fin O1 O2
        obtain ⟨hd1, hd2⟩ := eH_dvd O1 O2
        obtain ⟨o1, o2, o3, o4, -⟩ := id O1
        obtain ⟨o5, o6, o7, o8, -⟩ := id O2
        simp only at o1 o2 o3 o4 o5 o6 o7 o8 hfin
        have HG : Hid (∀ W : World, Calls Try.prog 63 #[.int .i64 d, .int .i64 q] W fun e w' => e = .returned (.int .i64 (eG ⟨n, d⟩ ⟨p, q⟩)) ∧ Below W.heap.size W w') := (fun W => rdiv_any d q W (by omega) (by omega) (by omega) (by omega) : ∀ W : World, _)
        have eqP : d / eG ⟨n, d⟩ ⟨p, q⟩ = eP ⟨n, d⟩ ⟨p, q⟩ := rfl
        have eqQ : q / eG ⟨n, d⟩ ⟨p, q⟩ = eQ ⟨n, d⟩ ⟨p, q⟩ := rfl
        have x1 := ef.g1; have x2 := ef.gl; have x3 := ef.p1; have x4 := ef.pl; have x5 := ef.q1; have x6 := ef.ql; have x9 := ef.h1; have x10 := ef.hg; have x11 := ef.gh1; have x12 := ef.ghl
        have HR1 := Lib.hid (fun W => rrest_any n (eQ ⟨n, d⟩ ⟨p, q⟩) (eG ⟨n, d⟩ ⟨p, q⟩) W (by omega) (by omega) (by omega) x6 x1 x2)
        have HR2 := Lib.hid (fun W => rrest_any p (eP ⟨n, d⟩ ⟨p, q⟩) (eG ⟨n, d⟩ ⟨p, q⟩) W (by omega) (by omega) (by omega) x4 x1 x2)
        have hM : (n * eQ ⟨n, d⟩ ⟨p, q⟩ % eG ⟨n, d⟩ ⟨p, q⟩ + p * eP ⟨n, d⟩ ⟨p, q⟩ % eG ⟨n, d⟩ ⟨p, q⟩) % eG ⟨n, d⟩ ⟨p, q⟩ = eN ⟨n, d⟩ ⟨p, q⟩ % eG ⟨n, d⟩ ⟨p, q⟩ := rests_mod
        have M0 := Int.emod_nonneg (eN ⟨n, d⟩ ⟨p, q⟩) (show eG ⟨n, d⟩ ⟨p, q⟩ ≠ 0 by omega)
        have M1 := Int.emod_lt_of_pos (eN ⟨n, d⟩ ⟨p, q⟩) (show 0 < eG ⟨n, d⟩ ⟨p, q⟩ by omega)
        have HH : Hid (∀ W : World, Calls Try.prog 63 #[.int .i64 (eN ⟨n, d⟩ ⟨p, q⟩ % eG ⟨n, d⟩ ⟨p, q⟩), .int .i64 (eG ⟨n, d⟩ ⟨p, q⟩)] W fun e w' => e = .returned (.int .i64 (eH ⟨n, d⟩ ⟨p, q⟩)) ∧ Below W.heap.size W w') := (fun W => rdiv_any _ _ W M0 (by omega) (by omega) (by omega) : ∀ W : World, _)
        have ra0 := Int.emod_nonneg (n * eQ ⟨n, d⟩ ⟨p, q⟩) (show eG ⟨n, d⟩ ⟨p, q⟩ ≠ 0 by omega)
        have ra1 := Int.emod_lt_of_pos (n * eQ ⟨n, d⟩ ⟨p, q⟩) (show 0 < eG ⟨n, d⟩ ⟨p, q⟩ by omega)
        have rb0 := Int.emod_nonneg (p * eP ⟨n, d⟩ ⟨p, q⟩) (show eG ⟨n, d⟩ ⟨p, q⟩ ≠ 0 by omega)
        have rb1 := Int.emod_lt_of_pos (p * eP ⟨n, d⟩ ⟨p, q⟩) (show 0 < eG ⟨n, d⟩ ⟨p, q⟩ by omega)
        have pq0 : 0 ≤ eP ⟨n, d⟩ ⟨p, q⟩ * eQ ⟨n, d⟩ ⟨p, q⟩ := Int.mul_nonneg (by omega) (by omega)
        have eqK : eG ⟨n, d⟩ ⟨p, q⟩ / eH ⟨n, d⟩ ⟨p, q⟩ = eG ⟨n, d⟩ ⟨p, q⟩ / eH ⟨n, d⟩ ⟨p, q⟩ := rfl
        have HOV1 := Lib.hid (fun W => rover_any (eP ⟨n, d⟩ ⟨p, q⟩) (eQ ⟨n, d⟩ ⟨p, q⟩) W (by omega) (by omega) (by omega) (by omega))
        have HOV2 := Lib.hid (fun W (h : eP ⟨n, d⟩ ⟨p, q⟩ * eQ ⟨n, d⟩ ⟨p, q⟩ ≤ 1000000000000000) => rover_any (eP ⟨n, d⟩ ⟨p, q⟩ * eQ ⟨n, d⟩ ⟨p, q⟩) (eG ⟨n, d⟩ ⟨p, q⟩ / eH ⟨n, d⟩ ⟨p, q⟩) W pq0 (by omega) (by omega) (by omega))
        have eqD : eP ⟨n, d⟩ ⟨p, q⟩ * eQ ⟨n, d⟩ ⟨p, q⟩ * (eG ⟨n, d⟩ ⟨p, q⟩ / eH ⟨n, d⟩ ⟨p, q⟩) = eD ⟨n, d⟩ ⟨p, q⟩ := rfl
        have HDV1 : Hid (∀ W : World, 0 ≤ eD ⟨n, d⟩ ⟨p, q⟩ → eD ⟨n, d⟩ ⟨p, q⟩ ≤ 1000000000000000 → Calls Try.prog 84 #[.int .i64 n, .int .i64 (eD ⟨n, d⟩ ⟨p, q⟩), .int .i64 d] W fun e w' => e = .returned (.tuple #[.int .i64 (n * eD ⟨n, d⟩ ⟨p, q⟩ / d), .int .i64 (n * eD ⟨n, d⟩ ⟨p, q⟩ % d)]) ∧ Below W.heap.size W w') := (fun W h0 h1 => rdivided_any n _ d W o3 (by omega) h0 h1 o1 o2 (by have := (div_small o3 o4 o1 h0).2; omega) : ∀ W : World, _)
        have HDV2 : Hid (∀ W : World, 0 ≤ eD ⟨n, d⟩ ⟨p, q⟩ → eD ⟨n, d⟩ ⟨p, q⟩ ≤ 1000000000000000 → Calls Try.prog 84 #[.int .i64 p, .int .i64 (eD ⟨n, d⟩ ⟨p, q⟩), .int .i64 q] W fun e w' => e = .returned (.tuple #[.int .i64 (p * eD ⟨n, d⟩ ⟨p, q⟩ / q), .int .i64 (p * eD ⟨n, d⟩ ⟨p, q⟩ % q)]) ∧ Below W.heap.size W w') := (fun W h0 h1 => rdivided_any p _ q W o7 (by omega) h0 h1 o5 o6 (by have := (div_small o7 o8 o5 h0).2; omega) : ∀ W : World, _)
        have HRO := Lib.hid (fun W h0 h1 => rrestOf_any n d p q (eD ⟨n, d⟩ ⟨p, q⟩) W O1 O2 h0 h1)
        have HQ1 := Lib.hid (fun h0 => div_small (e := eD ⟨n, d⟩ ⟨p, q⟩) o3 o4 o1 h0)
        have HQ2 := Lib.hid (fun h0 => div_small (e := eD ⟨n, d⟩ ⟨p, q⟩) o7 o8 o5 h0)
        have HFN : Hid (n * eD ⟨n, d⟩ ⟨p, q⟩ / d + p * eD ⟨n, d⟩ ⟨p, q⟩ / q + roI (n * eD ⟨n, d⟩ ⟨p, q⟩ % d) (p * eD ⟨n, d⟩ ⟨p, q⟩ % q) = eN ⟨n, d⟩ ⟨p, q⟩ / eH ⟨n, d⟩ ⟨p, q⟩) := (by rw [← hfin]; rfl : n * eD ⟨n, d⟩ ⟨p, q⟩ / d + p * eD ⟨n, d⟩ ⟨p, q⟩ / q + roI (n * eD ⟨n, d⟩ ⟨p, q⟩ % d) (p * eD ⟨n, d⟩ ⟨p, q⟩ % q) = eN ⟨n, d⟩ ⟨p, q⟩ / eH ⟨n, d⟩ ⟨p, q⟩)
        rw [if_neg hgt] at HT0
        clear hfin ef hcz hgt hd1 hd2 eqK O1 O2
        obtain ⟨r1, hr1⟩ : ∃ r, r = n * eQ ⟨n, d⟩ ⟨p, q⟩ % eG ⟨n, d⟩ ⟨p, q⟩ := ⟨_, rfl⟩
        obtain ⟨r2, hr2⟩ : ∃ r, r = p * eP ⟨n, d⟩ ⟨p, q⟩ % eG ⟨n, d⟩ ⟨p, q⟩ := ⟨_, rfl⟩
        rw [← hr1] at HR1 hM ra0 ra1
        rw [← hr2] at HR2 hM rb0 rb1
        clear hr1 hr2
        obtain ⟨res, hres⟩ : ∃ r, r = eitherR ⟨n, d⟩ ⟨p, q⟩ := ⟨_, rfl⟩
        rw [← hres] at HT0 ⊢
        obtain ⟨A, hA⟩ : ∃ r, r = n * eD ⟨n, d⟩ ⟨p, q⟩ / d := ⟨_, rfl⟩
        obtain ⟨R, hR⟩ : ∃ r, r = n * eD ⟨n, d⟩ ⟨p, q⟩ % d := ⟨_, rfl⟩
        obtain ⟨C, hC⟩ : ∃ r, r = p * eD ⟨n, d⟩ ⟨p, q⟩ / q := ⟨_, rfl⟩
        obtain ⟨S, hS⟩ : ∃ r, r = p * eD ⟨n, d⟩ ⟨p, q⟩ % q := ⟨_, rfl⟩
        rw [← hA, ← hR] at HDV1
        rw [← hC, ← hS] at HDV2
        rw [← hR, ← hS] at HRO
        rw [← hA, ← hR, ← hC, ← hS] at HFN
        rw [← hA] at HQ1
        rw [← hC] at HQ2
        clear hA hR hC hS hres
        obtain ⟨D, hD⟩ : ∃ r, r = eD ⟨n, d⟩ ⟨p, q⟩ := ⟨_, rfl⟩
        rw [← hD] at HT0 HDV1 HDV2 HRO HQ1 HQ2 eqD
        obtain ⟨N, hN⟩ : ∃ r, r = eN ⟨n, d⟩ ⟨p, q⟩ := ⟨_, rfl⟩
        rw [← hN] at HT0 HH HFN hM M0 M1
        obtain ⟨H, hH⟩ : ∃ r, r = eH ⟨n, d⟩ ⟨p, q⟩ := ⟨_, rfl⟩
        rw [← hH] at HT0 HH HFN HOV2 eqD x9 x10 x11 x12
        obtain ⟨P, hP⟩ : ∃ r, r = eP ⟨n, d⟩ ⟨p, q⟩ := ⟨_, rfl⟩
        rw [← hP] at HT0 HR2 HOV1 HOV2 eqP eqD x3 x4 pq0
        obtain ⟨Q, hQ⟩ : ∃ r, r = eQ ⟨n, d⟩ ⟨p, q⟩ := ⟨_, rfl⟩
        rw [← hQ] at HT0 HR1 HOV1 HOV2 eqQ eqD x5 x6 pq0
        obtain ⟨g, hg⟩ : ∃ r, r = eG ⟨n, d⟩ ⟨p, q⟩ := ⟨_, rfl⟩
        rw [← hg] at HR1 HR2 HG HH HOV2 eqP eqQ eqD x1 x2 x10 x11 x12 hM M0 M1 ra1 rb1
        clear hD hN hH hP hQ hg
        obtain ⟨K, hK⟩ : ∃ r, g / H = r := ⟨_, rfl⟩
        rw [hK] at HOV2 eqD x11 x12
        obtain ⟨M, hMM⟩ : ∃ r, r = N % g := ⟨_, rfl⟩
        rw [← hMM] at HH hM M0 M1
        obtain ⟨NH, hNH⟩ : ∃ r, r = N / H := ⟨_, rfl⟩
        rw [← hNH] at HT0 HFN
        clear hMM hNH
        have g00 : (g == 0) = false := by simp; omega
        have h00 : (H == 0) = false := by simp; omega
        have t1 : d.tdiv g = P := by rw [Int.tdiv_eq_ediv_of_nonneg (by omega)]; exact eqP
        have t2 : q.tdiv g = Q := by rw [Int.tdiv_eq_ediv_of_nonneg (by omega)]; exact eqQ
        have t3 : (r1 + r2).tmod g = M := by rw [Int.tmod_eq_emod_of_nonneg (by omega)]; exact hM
        have w1' : IntKind.i64.wrap P = P := IntWalk.i64_in _ ⟨by omega, by omega⟩
        have w2' : IntKind.i64.wrap Q = Q := IntWalk.i64_in _ ⟨by omega, by omega⟩
        have w3' : IntKind.i64.wrap (r1 + r2) = r1 + r2 := IntWalk.i64_in _ ⟨by omega, by omega⟩
        have w4' : IntKind.i64.wrap M = M := IntWalk.i64_in _ ⟨by omega, by omega⟩
        have t4 : g.tdiv H = K := by rw [Int.tdiv_eq_ediv_of_nonneg (by omega)]; exact hK
        clear hM ra0 ra1 rb0 rb1 M0 M1
        by_cases s1 : P * Q ≤ 1000000000000000
        · have hk0 : 0 ≤ P * Q * K := Int.mul_nonneg pq0 (by omega)
          have D0 : 0 ≤ D := by rw [← eqD]; exact hk0
          have HOV2 := Lib.hid (fun W => HOV2.out W s1)
          by_cases s2 : D ≤ 1000000000000000
          · have o1 : overB P Q = false := by unfold overB; simp; omega
            have o2 : overB (P * Q) K = false := by unfold overB; rw [eqD]; simp; omega
            rw [o1] at HOV1
            rw [o2] at HOV2
            obtain ⟨a0, a1⟩ := HQ1.out D0
            obtain ⟨b0, b1⟩ := HQ2.out D0
            have HDV1 := Lib.hid (fun W => HDV1.out W D0 s2)
            have HDV2 := Lib.hid (fun W => HDV2.out W D0 s2)
            have HRO := Lib.hid (fun W => HRO.out W D0 s2)
            obtain ⟨ρ0, ρ1⟩ : 0 ≤ roI R S ∧ roI R S ≤ 1 := by unfold roI; split <;> omega
            obtain ⟨ρ, hρ⟩ : ∃ r, r = roI R S := ⟨_, rfl⟩
            rw [← hρ] at HRO HFN ρ0 ρ1
            have HT : Hid (res = (A + C + ρ, D, 0)) := (by rw [HT0.out, if_pos ⟨s1, s2⟩, HFN.out] : res = (A + C + ρ, D, 0))
            clear HT0 HFN HQ1 HQ2 hρ o1 o2 hk0
            go_enter Try.func49, Try.ntmps49
            go_upto_region 3 with (first | (go_at_call 45; have _ := hb1; (with_reducible refine (HB.out _).mono ?_); rintro _ w2 ⟨rfl, hb2⟩) | (go_at_call 45; (with_reducible refine (HA.out _).mono ?_); rintro _ w1 ⟨rfl, hb1⟩; have g0 : Blk w1 w.heap.size #[.int .i64 n, .int .i64 d] 51 := (((Blk.at_ rfl).alloc _).alloc _).below hb1 (by first | omega | (simp; omega) | (simp; done)); have g1 : Blk w1 (w.heap.size + 1) #[.int .i64 p, .int .i64 q] 51 := ((Blk.at_ (by simp)).alloc _).below hb1 (by first | omega | (simp; omega) | (simp; done)); have g2 : Blk w1 (w.heap.size + 1 + 1) #[.int .i64 0, .int .i64 0] 51 := (Blk.at_ (by simp)).below hb1 (by first | omega | (simp; omega) | (simp; done)); have hw1 : Below w.heap.size w w1 := (by (repeat (first | exact Below.refl _ _ | assumption | (refine Below.alloc ?_ (by first | omega | (simp; omega) | (simp; done)) _) | (refine Below.setCell ?_ (by first | omega | (simp; omega) | (simp; done)) _) | (refine Below.drew ?_) | (refine belowN ?_ _) | (refine Below.trans ?_ (Below.mono ‹Below _ _ _› (by first | omega | (simp; omega) | (simp; done))))))); have c2 := g1.cell 0; have c3 := g1.cell 1; simp at c2 c3))
            have g0 := g0.below hb2 g0.lt; have g1 := g1.below hb2 g1.lt; have g2 := g2.below hb2 g2.lt
            have hw2 := bl2 hw1 hb2
            have c0 := g0.cell 0; have c1 := g0.cell 1; have c2 := g1.cell 0; have c3 := g1.cell 1
            simp at c0 c1 c2 c3
            clear hb2 hw1
            clear hb1
            go_upto_region 4 with (go_at_call 48; refine (HN.out _).mono ?_; rintro _ w3 ⟨rfl, hb3⟩)
            have g0 := g0.below hb3 g0.lt; have g1 := g1.below hb3 g1.lt; have g2 := g2.below hb3 g2.lt
            have hw3 := bl2 hw2 hb3
            have c0 := g0.cell 0; have c1 := g0.cell 1; have c2 := g1.cell 0; have c3 := g1.cell 1
            simp at c0 c1 c2 c3
            clear hb3 hw2
            obtain ⟨B3, hB3⟩ : ∃ b, b = w3.heap.size := ⟨_, rfl⟩
            refine gen_w (fun W => Blk W w.heap.size #[.int .i64 n, .int .i64 d] 51 ∧ Blk W (w.heap.size + 1) #[.int .i64 p, .int .i64 q] 51 ∧ Blk W (w.heap.size + 1 + 1) #[.int .i64 0, .int .i64 0] 51 ∧ Blk W B3 #[.int .i64 (q - p), .int .i64 q] 51 ∧ Below w.heap.size w W) ⟨g0.alloc _, g1.alloc _, g2.alloc _, Blk.at_ hB3, hw3.alloc hw3.size _⟩ ?_
            rw [← hB3]
            clear hB3 g0 g1 g2 c0 c1 c2 c3 hw3
            clear w3
            rintro w3 ⟨g0, g1, g2, g3, hw3⟩
            have c0 := g0.cell 0; have c1 := g0.cell 1; have c2 := g1.cell 0; have c3 := g1.cell 1; have c6 := g3.cell 0; have c7 := g3.cell 1
            simp at c0 c1 c2 c3 c6 c7
            refine Hid.out ?_
            refine Lib.hid ?_
            go_wp2_with (go_at_call 46; refine (HC.out _).mono ?_; rintro _ w4 ⟨rfl, hb4⟩; refine Hid.out ?_)
            clear g3 c6 c7
            have g0 := g0.below hb4 g0.lt; have g1 := g1.below hb4 g1.lt; have g2 := g2.below hb4 g2.lt
            have hw4 := bl2 hw3 hb4
            have c0 := g0.cell 0; have c1 := g0.cell 1; have c2 := g1.cell 0; have c3 := g1.cell 1
            simp at c0 c1 c2 c3
            clear hb4 hw3
            have hz := g2.lt
            have c4 := g2.cell 0; have c5 := g2.cell 1; have f0 := g2.free 0; have f1 := g2.free 1
            simp at c4 c5
            refine Lib.hid ?_
            go_upto_region 7 with (go_at_call 63; refine (HG.out _).mono ?_; rintro _ w5 ⟨rfl, hb5⟩)
            clear c4 c5 f0 f1 hz
            have g0 := g0.below hb5 g0.lt; have g1 := g1.below hb5 g1.lt; have g2 := g2.below hb5 g2.lt
            have hw5 := bl2 hw4 hb5
            have c0 := g0.cell 0; have c1 := g0.cell 1; have c2 := g1.cell 0; have c3 := g1.cell 1
            simp at c0 c1 c2 c3
            clear hb5 hw4
            (refine wp_region_ext (by kernel_rfl) (by kernel_rfl) ?_; (repeat (go_big_quiet_step((fail)))); with_reducible refine wpQuiet_nil ?_; intro w9 hw9; have hb9 := ext_below hw9; clear hw9)
            have g0 := g0.below hb9 g0.lt; have g1 := g1.below hb9 g1.lt; have g2 := g2.below hb9 g2.lt
            have hw6 := bl2 hw5 hb9
            have c0 := g0.cell 0; have c1 := g0.cell 1; have c2 := g1.cell 0; have c3 := g1.cell 1
            simp at c0 c1 c2 c3
            clear hb9 hw5
            go_upto_region 8 with fail
            (refine wp_region_ext (by kernel_rfl) (by kernel_rfl) ?_; (repeat (go_big_quiet_step((first | (go_at_call 85; (first | with_reducible exact Calls.ext_of (HR1.out _) | with_reducible exact Calls.ext_of (HR2.out _))) | (go_at_call 63; with_reducible exact Calls.ext_of (HH.out _)))))); with_reducible refine wpQuiet_nil ?_; intro w9 hw9; have hb9 := ext_below hw9; clear hw9)
            rename World => w8
            have g0 := g0.below hb9 g0.lt; have g1 := g1.below hb9 g1.lt; have g2 := g2.below hb9 g2.lt
            have hw8 := bl2 hw6 hb9
            have c0 := g0.cell 0; have c1 := g0.cell 1; have c2 := g1.cell 0; have c3 := g1.cell 1
            simp at c0 c1 c2 c3
            clear hb9 hw6
            have hz := g2.lt
            have c4 := g2.cell 0; have c5 := g2.cell 1; have f0 := g2.free 0; have f1 := g2.free 1
            simp at c4 c5
            refine Hid.out ?_
            refine Lib.hid ?_
            go_wp2_with (first | (go_at_call 64; have _ := hb10; (with_reducible refine (HOV2.out _).mono ?_); rintro _ w11 ⟨rfl, hb11⟩; have g0 := g0.below hb11 g0.lt; have g1 := g1.below hb11 g1.lt; have g2 := g2.below hb11 g2.lt; have hw11 := bl2 hw10 hb11; have c0 := g0.cell 0; have c1 := g0.cell 1; have c2 := g1.cell 0; have c3 := g1.cell 1; simp at c0 c1 c2 c3) |
              (go_at_call 64; (with_reducible refine (HOV1.out _).mono ?_); rintro _ w10 ⟨rfl, hb10⟩; have g0 := g0.below hb10 g0.lt; have g1 := g1.below hb10 g1.lt; have g2 := g2.below hb10 g2.lt; have hw10 := bl2 hw8 hb10) |
              (go_at_call 84; have _ := hb12; (with_reducible refine (HDV2.out _).mono ?_); rintro _ w13 ⟨rfl, hb13⟩; have g0 := g0.below hb13 g0.lt; have g1 := g1.below hb13 g1.lt; have g2 := g2.below hb13 g2.lt; have hw13 := bl2 hw12 hb13; have c0 := g0.cell 0; have c1 := g0.cell 1; have c2 := g1.cell 0; have c3 := g1.cell 1; simp at c0 c1 c2 c3) |
              (go_at_call 84; (with_reducible refine (HDV1.out _).mono ?_); rintro _ w12 ⟨rfl, hb12⟩; have g0 := g0.below hb12 g0.lt; have g1 := g1.below hb12 g1.lt; have g2 := g2.below hb12 g2.lt; have hw12 := bl2 hw11 hb12; have c0 := g0.cell 0; have c1 := g0.cell 1; have c2 := g1.cell 0; have c3 := g1.cell 1; simp at c0 c1 c2 c3) |
              (go_at_call 86; (with_reducible refine (HRO.out _).mono ?_); rintro _ w14 ⟨rfl, hb14⟩; have g2 := g2.below hb14 g2.lt; have hw14 := bl2 hw13 hb14; have hz := g2.lt; have c4 := g2.cell 0; have c5 := g2.cell 1; have f0 := g2.free 0; have f1 := g2.free 1; simp at c4 c5))
            refine gen_w (fun W => Blk W (w.heap.size + 1 + 1) #[.int .i64 (A + C + ρ), .int .i64 D] 51 ∧ Below w.heap.size w W) ⟨(Blk.set2r g2 _ _), by (repeat (first | exact Below.refl _ _ | assumption | (refine Below.alloc ?_ (by first | omega | (simp; omega) | (simp; done)) _) | (refine Below.setCell ?_ (by first | omega | (simp; omega) | (simp; done)) _) | (refine Below.drew ?_) | (refine belowN ?_ _) | (refine Below.trans ?_ (Below.mono ‹Below _ _ _› (by first | omega | (simp; omega) | (simp; done))))))⟩ ?_
            rintro W ⟨gW, hW⟩
            have q0 := gW.cell 0; have q1 := gW.cell 1
            simp at q0 q1
            exact bodyPost_ret (v := .tuple #[.agg #[.int .i64 (A + C + ρ), .int .i64 D], .int .i64 0]) (by simp [results, Try.results49, go_sem, q0, q1]) rfl ⟨by rw [HT.out], hW⟩
          · have o1 : overB P Q = false := by unfold overB; simp; omega
            have o2 : overB (P * Q) K = true := by unfold overB; rw [eqD]; simp; omega
            rw [o1] at HOV1
            rw [o2] at HOV2
            have HT : Hid (res = (0, 0, 10)) := (by rw [HT0.out, if_neg (fun h => s2 h.2)] : res = (0, 0, 10))
            clear HT0 HFN HQ1 HQ2 o1 o2 hk0 HDV1 HDV2 HRO s2
            go_enter Try.func49, Try.ntmps49
            go_upto_region 3 with (first | (go_at_call 45; have _ := hb1; (with_reducible refine (HB.out _).mono ?_); rintro _ w2 ⟨rfl, hb2⟩) | (go_at_call 45; (with_reducible refine (HA.out _).mono ?_); rintro _ w1 ⟨rfl, hb1⟩; have g0 : Blk w1 w.heap.size #[.int .i64 n, .int .i64 d] 51 := (((Blk.at_ rfl).alloc _).alloc _).below hb1 (by first | omega | (simp; omega) | (simp; done)); have g1 : Blk w1 (w.heap.size + 1) #[.int .i64 p, .int .i64 q] 51 := ((Blk.at_ (by simp)).alloc _).below hb1 (by first | omega | (simp; omega) | (simp; done)); have g2 : Blk w1 (w.heap.size + 1 + 1) #[.int .i64 0, .int .i64 0] 51 := (Blk.at_ (by simp)).below hb1 (by first | omega | (simp; omega) | (simp; done)); have hw1 : Below w.heap.size w w1 := (by (repeat (first | exact Below.refl _ _ | assumption | (refine Below.alloc ?_ (by first | omega | (simp; omega) | (simp; done)) _) | (refine Below.setCell ?_ (by first | omega | (simp; omega) | (simp; done)) _) | (refine Below.drew ?_) | (refine belowN ?_ _) | (refine Below.trans ?_ (Below.mono ‹Below _ _ _› (by first | omega | (simp; omega) | (simp; done))))))); have c2 := g1.cell 0; have c3 := g1.cell 1; simp at c2 c3))
            have g0 := g0.below hb2 g0.lt; have g1 := g1.below hb2 g1.lt; have g2 := g2.below hb2 g2.lt
            have hw2 := bl2 hw1 hb2
            have c0 := g0.cell 0; have c1 := g0.cell 1; have c2 := g1.cell 0; have c3 := g1.cell 1
            simp at c0 c1 c2 c3
            clear hb2 hw1
            clear hb1
            go_upto_region 4 with (go_at_call 48; refine (HN.out _).mono ?_; rintro _ w3 ⟨rfl, hb3⟩)
            have g0 := g0.below hb3 g0.lt; have g1 := g1.below hb3 g1.lt; have g2 := g2.below hb3 g2.lt
            have hw3 := bl2 hw2 hb3
            have c0 := g0.cell 0; have c1 := g0.cell 1; have c2 := g1.cell 0; have c3 := g1.cell 1
            simp at c0 c1 c2 c3
            clear hb3 hw2
            obtain ⟨B3, hB3⟩ : ∃ b, b = w3.heap.size := ⟨_, rfl⟩
            refine gen_w (fun W => Blk W w.heap.size #[.int .i64 n, .int .i64 d] 51 ∧ Blk W (w.heap.size + 1) #[.int .i64 p, .int .i64 q] 51 ∧ Blk W (w.heap.size + 1 + 1) #[.int .i64 0, .int .i64 0] 51 ∧ Blk W B3 #[.int .i64 (q - p), .int .i64 q] 51 ∧ Below w.heap.size w W) ⟨g0.alloc _, g1.alloc _, g2.alloc _, Blk.at_ hB3, hw3.alloc hw3.size _⟩ ?_
            rw [← hB3]
            clear hB3 g0 g1 g2 c0 c1 c2 c3 hw3
            clear w3
            rintro w3 ⟨g0, g1, g2, g3, hw3⟩
            have c0 := g0.cell 0; have c1 := g0.cell 1; have c2 := g1.cell 0; have c3 := g1.cell 1; have c6 := g3.cell 0; have c7 := g3.cell 1
            simp at c0 c1 c2 c3 c6 c7
            refine Hid.out ?_
            refine Lib.hid ?_
            go_wp2_with (go_at_call 46; refine (HC.out _).mono ?_; rintro _ w4 ⟨rfl, hb4⟩; refine Hid.out ?_)
            clear g3 c6 c7
            have g0 := g0.below hb4 g0.lt; have g1 := g1.below hb4 g1.lt; have g2 := g2.below hb4 g2.lt
            have hw4 := bl2 hw3 hb4
            have c0 := g0.cell 0; have c1 := g0.cell 1; have c2 := g1.cell 0; have c3 := g1.cell 1
            simp at c0 c1 c2 c3
            clear hb4 hw3
            have hz := g2.lt
            have c4 := g2.cell 0; have c5 := g2.cell 1; have f0 := g2.free 0; have f1 := g2.free 1
            simp at c4 c5
            refine Lib.hid ?_
            go_upto_region 7 with (go_at_call 63; refine (HG.out _).mono ?_; rintro _ w5 ⟨rfl, hb5⟩)
            clear c4 c5 f0 f1 hz
            have g0 := g0.below hb5 g0.lt; have g1 := g1.below hb5 g1.lt; have g2 := g2.below hb5 g2.lt
            have hw5 := bl2 hw4 hb5
            have c0 := g0.cell 0; have c1 := g0.cell 1; have c2 := g1.cell 0; have c3 := g1.cell 1
            simp at c0 c1 c2 c3
            clear hb5 hw4
            (refine wp_region_ext (by kernel_rfl) (by kernel_rfl) ?_; (repeat (go_big_quiet_step((fail)))); with_reducible refine wpQuiet_nil ?_; intro w9 hw9; have hb9 := ext_below hw9; clear hw9)
            have g0 := g0.below hb9 g0.lt; have g1 := g1.below hb9 g1.lt; have g2 := g2.below hb9 g2.lt
            have hw6 := bl2 hw5 hb9
            have c0 := g0.cell 0; have c1 := g0.cell 1; have c2 := g1.cell 0; have c3 := g1.cell 1
            simp at c0 c1 c2 c3
            clear hb9 hw5
            go_upto_region 8 with fail
            (refine wp_region_ext (by kernel_rfl) (by kernel_rfl) ?_; (repeat (go_big_quiet_step((first | (go_at_call 85; (first | with_reducible exact Calls.ext_of (HR1.out _) | with_reducible exact Calls.ext_of (HR2.out _))) | (go_at_call 63; with_reducible exact Calls.ext_of (HH.out _)))))); with_reducible refine wpQuiet_nil ?_; intro w9 hw9; have hb9 := ext_below hw9; clear hw9)
            rename World => w8
            have g0 := g0.below hb9 g0.lt; have g1 := g1.below hb9 g1.lt; have g2 := g2.below hb9 g2.lt
            have hw8 := bl2 hw6 hb9
            have c0 := g0.cell 0; have c1 := g0.cell 1; have c2 := g1.cell 0; have c3 := g1.cell 1
            simp at c0 c1 c2 c3
            clear hb9 hw6
            have hz := g2.lt
            have c4 := g2.cell 0; have c5 := g2.cell 1; have f0 := g2.free 0; have f1 := g2.free 1
            simp at c4 c5
            refine Hid.out ?_
            refine Lib.hid ?_
            go_wp2_with (first | (go_at_call 64; have _ := hb10; (with_reducible refine (HOV2.out _).mono ?_); rintro _ w11 ⟨rfl, hb11⟩; have g2 := g2.below hb11 g2.lt; have hw11 := bl2 hw10 hb11; have hz := g2.lt; have c4 := g2.cell 0; have c5 := g2.cell 1; have f0 := g2.free 0; have f1 := g2.free 1; simp at c4 c5) |
              (go_at_call 64; (with_reducible refine (HOV1.out _).mono ?_); rintro _ w10 ⟨rfl, hb10⟩; have g2 := g2.below hb10 g2.lt; have hw10 := bl2 hw8 hb10))
            refine gen_w (fun W => Blk W (w.heap.size + 1 + 1) #[.int .i64 0, .int .i64 0] 51 ∧ Below w.heap.size w W) ⟨(Blk.set2r g2 _ _), by (repeat (first | exact Below.refl _ _ | assumption | (refine Below.alloc ?_ (by first | omega | (simp; omega) | (simp; done)) _) | (refine Below.setCell ?_ (by first | omega | (simp; omega) | (simp; done)) _) | (refine Below.drew ?_) | (refine belowN ?_ _) | (refine Below.trans ?_ (Below.mono ‹Below _ _ _› (by first | omega | (simp; omega) | (simp; done))))))⟩ ?_
            rintro W ⟨gW, hW⟩
            have q0 := gW.cell 0; have q1 := gW.cell 1
            simp at q0 q1
            exact bodyPost_ret (v := .tuple #[.agg #[.int .i64 0, .int .i64 0], .int .i64 10]) (by simp [results, Try.results49, go_sem, q0, q1]) rfl ⟨by rw [HT.out], hW⟩
        · have o1 : overB P Q = true := by unfold overB; simp; omega
          rw [o1] at HOV1
          have HT : Hid (res = (0, 0, 10)) := (by rw [HT0.out, if_neg (fun h => s1 h.1)] : res = (0, 0, 10))
          clear HT0 HFN HQ1 HQ2 o1 HDV1 HDV2 HRO s1 HOV2 pq0
          go_enter Try.func49, Try.ntmps49
          go_upto_region 3 with (first | (go_at_call 45; have _ := hb1; (with_reducible refine (HB.out _).mono ?_); rintro _ w2 ⟨rfl, hb2⟩) | (go_at_call 45; (with_reducible refine (HA.out _).mono ?_); rintro _ w1 ⟨rfl, hb1⟩; have g0 : Blk w1 w.heap.size #[.int .i64 n, .int .i64 d] 51 := (((Blk.at_ rfl).alloc _).alloc _).below hb1 (by first | omega | (simp; omega) | (simp; done)); have g1 : Blk w1 (w.heap.size + 1) #[.int .i64 p, .int .i64 q] 51 := ((Blk.at_ (by simp)).alloc _).below hb1 (by first | omega | (simp; omega) | (simp; done)); have g2 : Blk w1 (w.heap.size + 1 + 1) #[.int .i64 0, .int .i64 0] 51 := (Blk.at_ (by simp)).below hb1 (by first | omega | (simp; omega) | (simp; done)); have hw1 : Below w.heap.size w w1 := (by (repeat (first | exact Below.refl _ _ | assumption | (refine Below.alloc ?_ (by first | omega | (simp; omega) | (simp; done)) _) | (refine Below.setCell ?_ (by first | omega | (simp; omega) | (simp; done)) _) | (refine Below.drew ?_) | (refine belowN ?_ _) | (refine Below.trans ?_ (Below.mono ‹Below _ _ _› (by first | omega | (simp; omega) | (simp; done))))))); have c2 := g1.cell 0; have c3 := g1.cell 1; simp at c2 c3))
          have g0 := g0.below hb2 g0.lt; have g1 := g1.below hb2 g1.lt; have g2 := g2.below hb2 g2.lt
          have hw2 := bl2 hw1 hb2
          have c0 := g0.cell 0; have c1 := g0.cell 1; have c2 := g1.cell 0; have c3 := g1.cell 1
          simp at c0 c1 c2 c3
          clear hb2 hw1
          clear hb1
          go_upto_region 4 with (go_at_call 48; refine (HN.out _).mono ?_; rintro _ w3 ⟨rfl, hb3⟩)
          have g0 := g0.below hb3 g0.lt; have g1 := g1.below hb3 g1.lt; have g2 := g2.below hb3 g2.lt
          have hw3 := bl2 hw2 hb3
          have c0 := g0.cell 0; have c1 := g0.cell 1; have c2 := g1.cell 0; have c3 := g1.cell 1
          simp at c0 c1 c2 c3
          clear hb3 hw2
          obtain ⟨B3, hB3⟩ : ∃ b, b = w3.heap.size := ⟨_, rfl⟩
          refine gen_w (fun W => Blk W w.heap.size #[.int .i64 n, .int .i64 d] 51 ∧ Blk W (w.heap.size + 1) #[.int .i64 p, .int .i64 q] 51 ∧ Blk W (w.heap.size + 1 + 1) #[.int .i64 0, .int .i64 0] 51 ∧ Blk W B3 #[.int .i64 (q - p), .int .i64 q] 51 ∧ Below w.heap.size w W) ⟨g0.alloc _, g1.alloc _, g2.alloc _, Blk.at_ hB3, hw3.alloc hw3.size _⟩ ?_
          rw [← hB3]
          clear hB3 g0 g1 g2 c0 c1 c2 c3 hw3
          clear w3
          rintro w3 ⟨g0, g1, g2, g3, hw3⟩
          have c0 := g0.cell 0; have c1 := g0.cell 1; have c2 := g1.cell 0; have c3 := g1.cell 1; have c6 := g3.cell 0; have c7 := g3.cell 1
          simp at c0 c1 c2 c3 c6 c7
          refine Hid.out ?_
          refine Lib.hid ?_
          go_wp2_with (go_at_call 46; refine (HC.out _).mono ?_; rintro _ w4 ⟨rfl, hb4⟩; refine Hid.out ?_)
          clear g3 c6 c7
          have g0 := g0.below hb4 g0.lt; have g1 := g1.below hb4 g1.lt; have g2 := g2.below hb4 g2.lt
          have hw4 := bl2 hw3 hb4
          have c0 := g0.cell 0; have c1 := g0.cell 1; have c2 := g1.cell 0; have c3 := g1.cell 1
          simp at c0 c1 c2 c3
          clear hb4 hw3
          have hz := g2.lt
          have c4 := g2.cell 0; have c5 := g2.cell 1; have f0 := g2.free 0; have f1 := g2.free 1
          simp at c4 c5
          refine Lib.hid ?_
          go_upto_region 7 with (go_at_call 63; refine (HG.out _).mono ?_; rintro _ w5 ⟨rfl, hb5⟩)
          clear c4 c5 f0 f1 hz
          have g0 := g0.below hb5 g0.lt; have g1 := g1.below hb5 g1.lt; have g2 := g2.below hb5 g2.lt
          have hw5 := bl2 hw4 hb5
          have c0 := g0.cell 0; have c1 := g0.cell 1; have c2 := g1.cell 0; have c3 := g1.cell 1
          simp at c0 c1 c2 c3
          clear hb5 hw4
          (refine wp_region_ext (by kernel_rfl) (by kernel_rfl) ?_; (repeat (go_big_quiet_step((fail)))); with_reducible refine wpQuiet_nil ?_; intro w9 hw9; have hb9 := ext_below hw9; clear hw9)
          have g0 := g0.below hb9 g0.lt; have g1 := g1.below hb9 g1.lt; have g2 := g2.below hb9 g2.lt
          have hw6 := bl2 hw5 hb9
          have c0 := g0.cell 0; have c1 := g0.cell 1; have c2 := g1.cell 0; have c3 := g1.cell 1
          simp at c0 c1 c2 c3
          clear hb9 hw5
          go_upto_region 8 with fail
          (refine wp_region_ext (by kernel_rfl) (by kernel_rfl) ?_; (repeat (go_big_quiet_step((first | (go_at_call 85; (first | with_reducible exact Calls.ext_of (HR1.out _) | with_reducible exact Calls.ext_of (HR2.out _))) | (go_at_call 63; with_reducible exact Calls.ext_of (HH.out _)))))); with_reducible refine wpQuiet_nil ?_; intro w9 hw9; have hb9 := ext_below hw9; clear hw9)
          rename World => w8
          have g0 := g0.below hb9 g0.lt; have g1 := g1.below hb9 g1.lt; have g2 := g2.below hb9 g2.lt
          have hw8 := bl2 hw6 hb9
          have c0 := g0.cell 0; have c1 := g0.cell 1; have c2 := g1.cell 0; have c3 := g1.cell 1
          simp at c0 c1 c2 c3
          clear hb9 hw6
          have hz := g2.lt
          have c4 := g2.cell 0; have c5 := g2.cell 1; have f0 := g2.free 0; have f1 := g2.free 1
          simp at c4 c5
          refine Hid.out ?_
          refine Lib.hid ?_
          go_wp2_with (go_at_call 64; (with_reducible refine (HOV1.out _).mono ?_); rintro _ w10 ⟨rfl, hb10⟩; have g2 := g2.below hb10 g2.lt; have hw10 := bl2 hw8 hb10; have hz := g2.lt; have c4 := g2.cell 0; have c5 := g2.cell 1; have f0 := g2.free 0; have f1 := g2.free 1; simp at c4 c5)
          refine gen_w (fun W => Blk W (w.heap.size + 1 + 1) #[.int .i64 0, .int .i64 0] 51 ∧ Below w.heap.size w W) ⟨(Blk.set2r g2 _ _), by (repeat (first | exact Below.refl _ _ | assumption | (refine Below.alloc ?_ (by first | omega | (simp; omega) | (simp; done)) _) | (refine Below.setCell ?_ (by first | omega | (simp; omega) | (simp; done)) _) | (refine Below.drew ?_) | (refine belowN ?_ _) | (refine Below.trans ?_ (Below.mono ‹Below _ _ _› (by first | omega | (simp; omega) | (simp; done))))))⟩ ?_
          rintro W ⟨gW, hW⟩
          have q0 := gW.cell 0; have q1 := gW.cell 1
          simp at q0 q1
          exact bodyPost_ret (v := .tuple #[.agg #[.int .i64 0, .int .i64 0], .int .i64 10]) (by simp [results, Try.results49, go_sem, q0, q1]) rfl ⟨by rw [HT.out], hW⟩
    · have ok2' : okC ⟨p, q⟩ = false := by simpa using ok2
      have okp : ¬ okP ⟨n, d⟩ ⟨p, q⟩ = true := by unfold okP; rw [ok1, ok2']; decide
      have HT : Hid (eitherR ⟨n, d⟩ ⟨p, q⟩ = (0, 0, 2)) := (by unfold eitherR; rw [if_neg okp] : eitherR ⟨n, d⟩ ⟨p, q⟩ = _)
      rw [ok1] at HA
      rw [ok2'] at HB
      clear ok1 ok2 ok2' okp
      go_enter Try.func49, Try.ntmps49
      go_wp2_with (first | (go_at_call 45; have _ := hb1; (with_reducible refine (HB.out _).mono ?_); rintro _ w2 ⟨rfl, hb2⟩; have g2 := g2.below hb2 g2.lt; have hz := g2.lt; have c4 := g2.cell 0; have c5 := g2.cell 1; have f0 := g2.free 0; have f1 := g2.free 1; simp at c4 c5; have hw2 := bl2 hw1 hb2) | (go_at_call 45; (with_reducible refine (HA.out _).mono ?_); rintro _ w1 ⟨rfl, hb1⟩; have g2 : Blk w1 (w.heap.size + 1 + 1) #[.int .i64 0, .int .i64 0] 51 := (Blk.at_ (by simp)).below hb1 (by first | omega | (simp; omega) | (simp; done)); have g1 : Blk w1 (w.heap.size + 1) #[.int .i64 p, .int .i64 q] 51 := ((Blk.at_ (by simp)).alloc _).below hb1 (by first | omega | (simp; omega) | (simp; done)); have c2 := g1.cell 0; have c3 := g1.cell 1; simp at c2 c3; have hz := g2.lt; have c4 := g2.cell 0; have c5 := g2.cell 1; have f0 := g2.free 0; have f1 := g2.free 1; simp at c4 c5; have hw1 : Below w.heap.size w w1 := (by (repeat (first | exact Below.refl _ _ | assumption | (refine Below.alloc ?_ (by first | omega | (simp; omega) | (simp; done)) _) | (refine Below.setCell ?_ (by first | omega | (simp; omega) | (simp; done)) _) | (refine Below.drew ?_) | (refine belowN ?_ _) | (refine Below.trans ?_ (Below.mono ‹Below _ _ _› (by first | omega | (simp; omega) | (simp; done)))))))))
      refine gen_w (fun W => Blk W (w.heap.size + 1 + 1) #[.int .i64 0, .int .i64 0] 51 ∧ Below w.heap.size w W) ⟨(Blk.set2r g2 _ _), by (repeat (first | exact Below.refl _ _ | assumption | (refine Below.alloc ?_ (by first | omega | (simp; omega) | (simp; done)) _) | (refine Below.setCell ?_ (by first | omega | (simp; omega) | (simp; done)) _) | (refine Below.drew ?_) | (refine belowN ?_ _) | (refine Below.trans ?_ (Below.mono ‹Below _ _ _› (by first | omega | (simp; omega) | (simp; done))))))⟩ ?_
      rintro W ⟨gW, hW⟩
      have q0 := gW.cell 0; have q1 := gW.cell 1
      simp at q0 q1
      exact bodyPost_ret (v := .tuple #[.agg #[.int .i64 0, .int .i64 0], .int .i64 2]) (by simp [results, Try.results49, go_sem, q0, q1]) rfl ⟨by rw [HT.out], hW⟩
  · have ok1' : okC ⟨n, d⟩ = false := by simpa using ok1
    have okp : ¬ okP ⟨n, d⟩ ⟨p, q⟩ = true := by unfold okP; rw [ok1']; simp
    have HT : Hid (eitherR ⟨n, d⟩ ⟨p, q⟩ = (0, 0, 2)) := (by unfold eitherR; rw [if_neg okp] : eitherR ⟨n, d⟩ ⟨p, q⟩ = _)
    rw [ok1'] at HA
    clear ok1 ok1' okp
    go_enter Try.func49, Try.ntmps49
    go_wp2_with (first | (go_at_call 45; have _ := hb1; (with_reducible refine (HB.out _).mono ?_); rintro _ w2 ⟨rfl, hb2⟩; have g2 := g2.below hb2 g2.lt; have hz := g2.lt; have c4 := g2.cell 0; have c5 := g2.cell 1; have f0 := g2.free 0; have f1 := g2.free 1; simp at c4 c5; have hw2 := bl2 hw1 hb2) | (go_at_call 45; (with_reducible refine (HA.out _).mono ?_); rintro _ w1 ⟨rfl, hb1⟩; have g2 : Blk w1 (w.heap.size + 1 + 1) #[.int .i64 0, .int .i64 0] 51 := (Blk.at_ (by simp)).below hb1 (by first | omega | (simp; omega) | (simp; done)); have g1 : Blk w1 (w.heap.size + 1) #[.int .i64 p, .int .i64 q] 51 := ((Blk.at_ (by simp)).alloc _).below hb1 (by first | omega | (simp; omega) | (simp; done)); have c2 := g1.cell 0; have c3 := g1.cell 1; simp at c2 c3; have hz := g2.lt; have c4 := g2.cell 0; have c5 := g2.cell 1; have f0 := g2.free 0; have f1 := g2.free 1; simp at c4 c5; have hw1 : Below w.heap.size w w1 := (by (repeat (first | exact Below.refl _ _ | assumption | (refine Below.alloc ?_ (by first | omega | (simp; omega) | (simp; done)) _) | (refine Below.setCell ?_ (by first | omega | (simp; omega) | (simp; done)) _) | (refine Below.drew ?_) | (refine belowN ?_ _) | (refine Below.trans ?_ (Below.mono ‹Below _ _ _› (by first | omega | (simp; omega) | (simp; done)))))))))
    refine gen_w (fun W => Blk W (w.heap.size + 1 + 1) #[.int .i64 0, .int .i64 0] 51 ∧ Below w.heap.size w W) ⟨(Blk.set2r g2 _ _), by (repeat (first | exact Below.refl _ _ | assumption | (refine Below.alloc ?_ (by first | omega | (simp; omega) | (simp; done)) _) | (refine Below.setCell ?_ (by first | omega | (simp; omega) | (simp; done)) _) | (refine Below.drew ?_) | (refine belowN ?_ _) | (refine Below.trans ?_ (Below.mono ‹Below _ _ _› (by first | omega | (simp; omega) | (simp; done))))))⟩ ?_
    rintro W ⟨gW, hW⟩
    have q0 := gW.cell 0; have q1 := gW.cell 1
    simp at q0 q1
    exact bodyPost_ret (v := .tuple #[.agg #[.int .i64 0, .int .i64 0], .int .i64 2]) (by simp [results, Try.results49, go_sem, q0, q1]) rfl ⟨by rw [HT.out], hW⟩
end Go.Proofs.Ytmfbiohdmhbkoaa

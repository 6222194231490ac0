/- almanac: the law AlmanacBack, day 2. -/
import Derived.Test.YtfbnllmmoaialaaZ21Pd
namespace Go.Proofs.Ytfbnllmmoaialaa
open Go.RowKit

set_option maxRecDepth 100000 in
set_option maxHeartbeats 8000000 in
theorem lwback_2 (e b u d p f m y s l bY : Int) (w : World) (h0 : 0 ≤ bY) (h1 : bY < 4294967296) (hs : solB ⟨e, b, u⟩ = true)
    (hc : nextS2 (solI ⟨e, b, u⟩ (bY % 1000000)) (solI ⟨e, b, u⟩ (bY % 1000000 + 1))) :
    Calls Try.prog 13 #[.agg #[.int .i64 e, .int .i64 b, .int .i64 u], .agg #[.int .i64 d, .int .i64 p, .int .i64 f, .int .i64 m, .int .i64 y, .int .i64 s, .int .i64 l], .int .u32 bY] w fun en w' => en = .returned (.bool true) ∧ Below w.heap.size w w' := by
  obtain ⟨day, hday⟩ : ∃ d, d = bY % 1000000 := ⟨_, rfl⟩
  have d0 : 0 ≤ day := by omega
  have d1 : day ≤ 999999 := by omega
  have w1d : IntKind.i64.wrap (day + 1) = day + 1 := IntWalk.i64_in _ ⟨by omega, by omega⟩
  rw [← hday] at hc
  obtain ⟨b1, -, b3⟩ := sol_back (solB_iff.1 hs) d0 d1
  have bd := solI_bd (solB_iff.1 hs) d0 (by omega : day ≤ 1000000)
  obtain ⟨a, ha⟩ : ∃ a, a = solI ⟨e, b, u⟩ day := ⟨_, rfl⟩
  obtain ⟨a', ha'⟩ : ∃ a, a = solI ⟨e, b, u⟩ (day + 1) := ⟨_, rfl⟩
  rw [← ha] at b1 b3 bd hc
  rw [← ha'] at hc
  obtain ⟨ay, am, ad⟩ := a
  obtain ⟨by', bm, bd'⟩ := a'
  simp only at bd b3
  have HC := Lib.hid hc; clear hc
  have HS1 := Lib.hid (fun W => solarV hs d0 (by omega) ha.symm W)
  have HS2 := Lib.hid (fun W => solarV hs (by omega) (by omega) ha'.symm W)
  have HS3 := Lib.hid (fun W => (by have h := solarDay_any e b u ay am ad W ⟨by omega, by omega⟩; rw [b1] at h; exact h : Calls Try.prog 42 #[.agg #[.int .i64 e, .int .i64 b, .int .i64 u], .agg #[.int .i64 ay, .int .i64 am, .int .i64 ad]] W fun en w' => en = .returned (.tuple #[.int .i64 day, .int .i64 0]) ∧ Below W.heap.size W w'))
  have t1 : decide (ay < 0) = false := by simp; omega
  have t2 : decide (am < 1) = false := by simp; omega
  have t3 : decide (12 < am) = false := by simp; omega
  have t4 : decide (ad < 1) = false := by simp; omega
  have t5 : decide (31 < ad) = false := by simp; omega
  have hyb : ay ≤ 4000 := by
    have h9 := yearI_spec (solB_iff.1 hs) d0 (by omega : day ≤ 1000000)
    have h8 : ay = (yearI ⟨e, b, u⟩ day : Int) := by have := congrArg SDate.y ha; exact this
    omega
  have wy : IntKind.i64.wrap (ay + 1) = ay + 1 := IntWalk.i64_in _ ⟨by omega, by omega⟩
  have wm : IntKind.i64.wrap (am + 1) = am + 1 := IntWalk.i64_in _ ⟨by omega, by omega⟩
  have wd : IntKind.i64.wrap (ad + 1) = ad + 1 := IntWalk.i64_in _ ⟨by omega, by omega⟩
  have HD := Lib.hid hday
  clear ha ha' b1 hs hday
  go_enter Try.func13, Try.ntmps13
  go_upto_region 2 with fail
  rw [← HD.out]
  obtain ⟨q3, hq3⟩ : ∃ n, n = w.heap.size := ⟨_, rfl⟩
  rw [← hq3]
  refine gen_w (fun W => (Below w.heap.size w W ∧ Blk W q3 #[.int .i64 e, .int .i64 b, .int .i64 u] 24 ∧ Blk W (q3 + 1) #[.int .i64 d, .int .i64 p, .int .i64 f, .int .i64 m, .int .i64 y, .int .i64 s, .int .i64 l] 26)) ⟨by (repeat (first | exact Below.refl _ _ | assumption | (refine Below.alloc ?_ (by first | omega | (simp; omega) | (simp; done)) _) | (refine Below.setCell ?_ (by first | omega | (simp; omega) | (simp; done)) _) | (refine Below.drew ?_) | (refine belowN ?_ _) | (refine Below.trans ?_ (Below.mono ‹Below _ _ _› (by first | omega | (simp; omega) | (simp; done)))))), (Blk.at_ hq3).alloc _, Blk.at_ (by simp [hq3])⟩ ?_
  clear hq3
  rintro V ⟨hw, g3, g4⟩
  (have c0 := g3.cell 0; have c1 := g3.cell 1; have c2 := g3.cell 2; simp at c0 c1 c2)
  go_upto_region 4 with (go_at_call 41; (with_reducible refine (HS1.out _).mono ?_); rintro _ W1 ⟨rfl, hb1⟩)
  obtain ⟨p8, hp8⟩ : ∃ n, n = W1.heap.size := ⟨_, rfl⟩
  rw [← hp8]
  refine gen_w (fun W => (Below w.heap.size w W ∧ Blk W q3 #[.int .i64 e, .int .i64 b, .int .i64 u] 24 ∧ Blk W (q3 + 1) #[.int .i64 d, .int .i64 p, .int .i64 f, .int .i64 m, .int .i64 y, .int .i64 s, .int .i64 l] 26) ∧ Blk W p8 #[.int .i64 ay, .int .i64 am, .int .i64 ad] 75) ⟨⟨bla (bl2 hw hb1), (g3.below hb1 g3.lt).alloc _, (g4.below hb1 g4.lt).alloc _⟩, Blk.at_ hp8⟩ ?_
  clear hb1 hp8 hw g3 g4 c0 c1 c2
  clear V W1
  rintro V ⟨⟨hw, g3, g4⟩, g8⟩
  (have c0 := g3.cell 0; have c1 := g3.cell 1; have c2 := g3.cell 2; simp at c0 c1 c2)
  go_upto_region 5 with (go_at_call 41; (with_reducible refine (HS2.out _).mono ?_); rintro _ W1 ⟨rfl, hb1⟩)
  obtain ⟨p10, hp10⟩ : ∃ n, n = W1.heap.size := ⟨_, rfl⟩
  rw [← hp10]
  refine gen_w (fun W => (Below w.heap.size w W ∧ Blk W q3 #[.int .i64 e, .int .i64 b, .int .i64 u] 24 ∧ Blk W (q3 + 1) #[.int .i64 d, .int .i64 p, .int .i64 f, .int .i64 m, .int .i64 y, .int .i64 s, .int .i64 l] 26) ∧ Blk W p8 #[.int .i64 ay, .int .i64 am, .int .i64 ad] 75 ∧ Blk W p10 #[.int .i64 by', .int .i64 bm, .int .i64 bd'] 75) ⟨⟨bla (bl2 hw hb1), (g3.below hb1 g3.lt).alloc _, (g4.below hb1 g4.lt).alloc _⟩, (g8.below hb1 g8.lt).alloc _, Blk.at_ hp10⟩ ?_
  clear hb1 hp10 hw g3 g4 g8 c0 c1 c2
  clear V W1
  rintro V ⟨⟨hw, g3, g4⟩, g8, g10⟩
  (have c0 := g3.cell 0; have c1 := g3.cell 1; have c2 := g3.cell 2; simp at c0 c1 c2)
  have a0 := g8.cell 0; have a1 := g8.cell 1; have a2 := g8.cell 2
  simp at a0 a1 a2
  go_upto_region 6 with (go_at_call 42; (with_reducible refine (HS3.out _).mono ?_); rintro _ W1 ⟨rfl, hb1⟩)
  refine gen_w (fun W => (Below w.heap.size w W ∧ Blk W q3 #[.int .i64 e, .int .i64 b, .int .i64 u] 24 ∧ Blk W (q3 + 1) #[.int .i64 d, .int .i64 p, .int .i64 f, .int .i64 m, .int .i64 y, .int .i64 s, .int .i64 l] 26) ∧ Blk W p8 #[.int .i64 ay, .int .i64 am, .int .i64 ad] 75 ∧ Blk W p10 #[.int .i64 by', .int .i64 bm, .int .i64 bd'] 75) ⟨⟨bl2 hw hb1, g3.below hb1 g3.lt, g4.below hb1 g4.lt⟩, g8.below hb1 g8.lt, g10.below hb1 g10.lt⟩ ?_
  clear hb1 hw g3 g4 g8 g10 c0 c1 c2 a0 a1 a2
  clear V W1
  rintro V ⟨⟨hw, g3, g4⟩, g8, g10⟩
  have a0 := g8.cell 0; have a1 := g8.cell 1; have a2 := g8.cell 2
  have e0 := g10.cell 0; have e1 := g10.cell 1; have e2 := g10.cell 2
  simp at a0 a1 a2 e0 e1 e2
  clear HS1 HS2 HS3
  obtain ⟨E1, E2, E3, h28⟩ := HC.out
  simp only at E1 E2 E3
  rw [E1] at e2; rw [E2] at e1; rw [E3] at e0; clear E1 E2 E3
  clear g10
  have u1 : ((1 : Int) == ad + 1) = false := by simp; omega
  have u2 : decide (28 ≤ ad) = true := by simp; omega
  go_upto_region 14 with fail
  clear a0 a1 a2 e0 e1 e2
  have hw := hw
  (have c0 := g4.cell 0; have c1 := g4.cell 1; have c2 := g4.cell 2; have c3 := g4.cell 3; have c4 := g4.cell 4; have c5 := g4.cell 5; have c6 := g4.cell 6; simp at c0 c1 c2 c3 c4 c5 c6)
  cases hl : lunB ⟨d, p, f, m, y, s, l⟩ with
  | false =>
    have HL1 := Lib.hid (fun W => lunarVn (day := day) hl W)
    clear hl
    go_wp2_with (first | (go_at_call 46; (with_reducible refine (HL1.out _).mono ?_); rintro _ W1 ⟨rfl, hb1⟩) | (go_at_call 17; refine (known_any _).mono ?_; rintro _ WK ⟨rfl, hbK⟩))
    go_ret
    exact ⟨rfl, bl2 (bla (bl2 hw hb1)) hbK⟩
  | true =>
    obtain ⟨l1, l2, l3, l4⟩ := moon_back (lunB_iff.1 hl) d0 d1
    have lbd := moonI_bd (lunB_iff.1 hl) (d := day)
    obtain ⟨a, ha⟩ : ∃ a, a = moonI ⟨d, p, f, m, y, s, l⟩ day := ⟨_, rfl⟩
    obtain ⟨a', ha'⟩ : ∃ a, a = moonI ⟨d, p, f, m, y, s, l⟩ (day + 1) := ⟨_, rfl⟩
    rw [← ha] at l1 l2 l3 l4 lbd
    rw [← ha'] at l2
    obtain ⟨ay2, am2, ad2, ak2⟩ := a
    obtain ⟨by2, bm2, bd2, bk2⟩ := a'
    simp only at l3 lbd l4
    simp only [nextM] at l2
    have HL1 := Lib.hid (fun W => lunarV hl d0 (by omega) ha.symm W)
    have HL2 := Lib.hid (fun W => lunarV hl (by omega) (by omega) ha'.symm W)
    have HL3 := Lib.hid (fun W => (by have h := lunarDay_any d p f m y s l ay2 am2 ad2 ak2 W; rw [l1] at h; exact h : Calls Try.prog 47 #[.agg #[.int .i64 d, .int .i64 p, .int .i64 f, .int .i64 m, .int .i64 y, .int .i64 s, .int .i64 l], .agg #[.int .i64 ay2, .int .i64 am2, .int .i64 ad2, .bool ak2]] W fun en w' => en = .returned (.tuple #[.int .i64 day, .int .i64 0]) ∧ Below W.heap.size W w'))
    have hyb2 : ay2 ≤ 1000003 := by
      have h9 := (yI_bd (lunB_iff.1 hl) d0 (by omega : day ≤ 1000001)).2
      have h8 : ay2 = yI ⟨d, p, f, m, y, s, l⟩ day := by have := congrArg LDate.y ha; rw [moonI_eq] at this; exact this
      omega
    have t1 : decide (ay2 < 0) = false := by simp; omega
    have t2 : decide (am2 < 1) = false := by simp; omega
    have t3 : decide (12 < am2) = false := by simp; omega
    have t4 : decide (ad2 < 1) = false := by simp; omega
    have t5 : decide (31 < ad2) = false := by simp; omega
    have wy2 : IntKind.i64.wrap (ay2 + 1) = ay2 + 1 := IntWalk.i64_in _ ⟨by omega, by omega⟩
    have wm2 : IntKind.i64.wrap (am2 + 1) = am2 + 1 := IntWalk.i64_in _ ⟨by omega, by omega⟩
    have wd2 : IntKind.i64.wrap (ad2 + 1) = ad2 + 1 := IntWalk.i64_in _ ⟨by omega, by omega⟩
    have HL4 := Lib.hid l4
    clear ha ha' l1 hl l4
    go_upto_region 16 with (go_at_call 46; (with_reducible refine (HL1.out _).mono ?_); rintro _ W1 ⟨rfl, hb1⟩)
    obtain ⟨p14, hp14⟩ : ∃ n, n = W1.heap.size := ⟨_, rfl⟩
    rw [← hp14]
    refine gen_w (fun W => Below w.heap.size w W ∧ Blk W (q3 + 1) #[.int .i64 d, .int .i64 p, .int .i64 f, .int .i64 m, .int .i64 y, .int .i64 s, .int .i64 l] 26 ∧ Blk W p14 #[.int .i64 ay2, .int .i64 am2, .int .i64 ad2, .bool ak2] 77) ⟨bla (bl2 hw hb1), (g4.below hb1 g4.lt).alloc _, Blk.at_ hp14⟩ ?_
    clear hb1 hp14 hw g4 c0 c1 c2 c3 c4 c5 c6
    clear W1
    rintro V2 ⟨hw, g4, g14⟩
    (have c0 := g4.cell 0; have c1 := g4.cell 1; have c2 := g4.cell 2; have c3 := g4.cell 3; have c4 := g4.cell 4; have c5 := g4.cell 5; have c6 := g4.cell 6; simp at c0 c1 c2 c3 c4 c5 c6)
    go_upto_region 17 with (go_at_call 46; (with_reducible refine (HL2.out _).mono ?_); rintro _ W1 ⟨rfl, hb1⟩)
    obtain ⟨p16, hp16⟩ : ∃ n, n = W1.heap.size := ⟨_, rfl⟩
    rw [← hp16]
    refine gen_w (fun W => Below w.heap.size w W ∧ Blk W (q3 + 1) #[.int .i64 d, .int .i64 p, .int .i64 f, .int .i64 m, .int .i64 y, .int .i64 s, .int .i64 l] 26 ∧ Blk W p14 #[.int .i64 ay2, .int .i64 am2, .int .i64 ad2, .bool ak2] 77 ∧ Blk W p16 #[.int .i64 by2, .int .i64 bm2, .int .i64 bd2, .bool bk2] 77) ⟨bla (bl2 hw hb1), (g4.below hb1 g4.lt).alloc _, (g14.below hb1 g14.lt).alloc _, Blk.at_ hp16⟩ ?_
    clear hb1 hp16 hw g4 g14 c0 c1 c2 c3 c4 c5 c6
    clear V2 W1
    rintro V2 ⟨hw, g4, g14, g16⟩
    (have c0 := g4.cell 0; have c1 := g4.cell 1; have c2 := g4.cell 2; have c3 := g4.cell 3; have c4 := g4.cell 4; have c5 := g4.cell 5; have c6 := g4.cell 6; simp at c0 c1 c2 c3 c4 c5 c6)
    have a0 := g14.cell 0; have a1 := g14.cell 1; have a2 := g14.cell 2; have a3 := g14.cell 3
    simp at a0 a1 a2 a3
    go_upto_region 18 with (go_at_call 47; (with_reducible refine (HL3.out _).mono ?_); rintro _ W1 ⟨rfl, hb1⟩)
    refine gen_w (fun W => Below w.heap.size w W ∧ Blk W (q3 + 1) #[.int .i64 d, .int .i64 p, .int .i64 f, .int .i64 m, .int .i64 y, .int .i64 s, .int .i64 l] 26 ∧ Blk W p14 #[.int .i64 ay2, .int .i64 am2, .int .i64 ad2, .bool ak2] 77 ∧ Blk W p16 #[.int .i64 by2, .int .i64 bm2, .int .i64 bd2, .bool bk2] 77) ⟨bl2 hw hb1, g4.below hb1 g4.lt, g14.below hb1 g14.lt, g16.below hb1 g16.lt⟩ ?_
    clear hb1 hw g4 g14 g16 c0 c1 c2 c3 c4 c5 c6 a0 a1 a2 a3
    clear V2 W1
    rintro V2 ⟨hw, g4, g14, g16⟩
    have a0 := g14.cell 0; have a1 := g14.cell 1; have a2 := g14.cell 2; have a3 := g14.cell 3
    have e0 := g16.cell 0; have e1 := g16.cell 1; have e2 := g16.cell 2; have e3 := g16.cell 3; have c6 := g4.cell 6
    simp at a0 a1 a2 a3 e0 e1 e2 e3 c6
    clear HL1 HL2 HL3
    have hk : (ak2 && (am2 != l)) = false := by
      cases ak2 with
      | false => rfl
      | true => have := HL4.out rfl; simp [this]
    have HKK := Lib.hid hk
    clear hk
    clear g16
    rcases l2 with ⟨E1, E2, E3, E4⟩ | ⟨E1, E2, E3, E4, h27⟩ | ⟨E1, E2, E3, E4, rfl, h27⟩ | ⟨E1, E2, E3, E4, E5, h27⟩
    · rw [E1] at e2; rw [E2] at e1; rw [E3] at e0; rw [E4] at e3; clear E1 E2 E3 E4
      cases ak2 with
      | false =>
        go_wp2_with (go_at_call 17; refine (known_any _).mono ?_; rintro _ WK ⟨rfl, hbK⟩)
        go_ret
        exact ⟨rfl, bl2 hw hbK⟩
      | true =>
        obtain rfl : am2 = l := HL4.out rfl
        go_wp2_with (go_at_call 17; refine (known_any _).mono ?_; rintro _ WK ⟨rfl, hbK⟩)
        go_ret
        exact ⟨rfl, bl2 hw hbK⟩
    · rw [E1] at e2; rw [E2] at e1; rw [E3] at e0; rw [E4] at e3; clear E1 E2 E3 E4
      have u1 : ((1 : Int) == ad2 + 1) = false := by simp; omega
      have u2 : decide (27 ≤ ad2) = true := by simp; omega
      cases ak2 with
      | false =>
        go_wp2_with (go_at_call 17; refine (known_any _).mono ?_; rintro _ WK ⟨rfl, hbK⟩)
        go_ret
        exact ⟨rfl, bl2 hw hbK⟩
      | true =>
        obtain rfl : am2 = l := HL4.out rfl
        go_wp2_with (go_at_call 17; refine (known_any _).mono ?_; rintro _ WK ⟨rfl, hbK⟩)
        go_ret
        exact ⟨rfl, bl2 hw hbK⟩
    · rw [E1] at e2; rw [E2] at e1; rw [E3] at e0; rw [E4] at e3; clear E1 E2 E3 E4
      have u1 : ((1 : Int) == ad2 + 1) = false := by simp; omega
      have u2 : decide (27 ≤ ad2) = true := by simp; omega
      have u3 : (am2 == am2 + 1) = false := by simp; omega
      go_wp2_with (go_at_call 17; refine (known_any _).mono ?_; rintro _ WK ⟨rfl, hbK⟩)
      go_ret
      exact ⟨rfl, bl2 hw hbK⟩
    · rw [E1] at e2; rw [E2] at e1; rw [E3] at e0; rw [E4] at e3; clear E1 E2 E3 E4
      have u1 : ((1 : Int) == ad2 + 1) = false := by simp; omega
      have u2 : decide (27 ≤ ad2) = true := by simp; omega
      subst E5
      cases ak2 with
      | false =>
        go_wp2_with (go_at_call 17; refine (known_any _).mono ?_; rintro _ WK ⟨rfl, hbK⟩)
        go_ret
        exact ⟨rfl, bl2 hw hbK⟩
      | true =>
        have hl12 : (12 : Int) = l := HL4.out rfl
        subst hl12
        go_wp2_with (go_at_call 17; refine (known_any _).mono ?_; rintro _ WK ⟨rfl, hbK⟩)
        go_ret
        exact ⟨rfl, bl2 hw hbK⟩
end Go.Proofs.Ytfbnllmmoaialaa
namespace Go.Proofs.Ytfbnllmmoaialaa
open Go.RowKit

set_option maxRecDepth 100000 in
set_option maxHeartbeats 8000000 in
theorem lwback_3 (e b u d p f m y s l bY : Int) (w : World) (h0 : 0 ≤ bY) (h1 : bY < 4294967296) (hs : solB ⟨e, b, u⟩ = true)
    (hc : nextS3 (solI ⟨e, b, u⟩ (bY % 1000000)) (solI ⟨e, b, u⟩ (bY % 1000000 + 1))) :
    Calls Try.prog 13 #[.agg #[.int .i64 e, .int .i64 b, .int .i64 u], .agg #[.int .i64 d, .int .i64 p, .int .i64 f, .int .i64 m, .int .i64 y, .int .i64 s, .int .i64 l], .int .u32 bY] w fun en w' => en = .returned (.bool true) ∧ Below w.heap.size w w' := by
  obtain ⟨day, hday⟩ : ∃ d, d = bY % 1000000 := ⟨_, rfl⟩
  have d0 : 0 ≤ day := by omega
  have d1 : day ≤ 999999 := by omega
  have w1d : IntKind.i64.wrap (day + 1) = day + 1 := IntWalk.i64_in _ ⟨by omega, by omega⟩
  rw [← hday] at hc
  obtain ⟨b1, -, b3⟩ := sol_back (solB_iff.1 hs) d0 d1
  have bd := solI_bd (solB_iff.1 hs) d0 (by omega : day ≤ 1000000)
  obtain ⟨a, ha⟩ : ∃ a, a = solI ⟨e, b, u⟩ day := ⟨_, rfl⟩
  obtain ⟨a', ha'⟩ : ∃ a, a = solI ⟨e, b, u⟩ (day + 1) := ⟨_, rfl⟩
  rw [← ha] at b1 b3 bd hc
  rw [← ha'] at hc
  obtain ⟨ay, am, ad⟩ := a
  obtain ⟨by', bm, bd'⟩ := a'
  simp only at bd b3
  have HC := Lib.hid hc; clear hc
  have HS1 := Lib.hid (fun W => solarV hs d0 (by omega) ha.symm W)
  have HS2 := Lib.hid (fun W => solarV hs (by omega) (by omega) ha'.symm W)
  have HS3 := Lib.hid (fun W => (by have h := solarDay_any e b u ay am ad W ⟨by omega, by omega⟩; rw [b1] at h; exact h : Calls Try.prog 42 #[.agg #[.int .i64 e, .int .i64 b, .int .i64 u], .agg #[.int .i64 ay, .int .i64 am, .int .i64 ad]] W fun en w' => en = .returned (.tuple #[.int .i64 day, .int .i64 0]) ∧ Below W.heap.size W w'))
  have t1 : decide (ay < 0) = false := by simp; omega
  have t2 : decide (am < 1) = false := by simp; omega
  have t3 : decide (12 < am) = false := by simp; omega
  have t4 : decide (ad < 1) = false := by simp; omega
  have t5 : decide (31 < ad) = false := by simp; omega
  have hyb : ay ≤ 4000 := by
    have h9 := yearI_spec (solB_iff.1 hs) d0 (by omega : day ≤ 1000000)
    have h8 : ay = (yearI ⟨e, b, u⟩ day : Int) := by have := congrArg SDate.y ha; exact this
    omega
  have wy : IntKind.i64.wrap (ay + 1) = ay + 1 := IntWalk.i64_in _ ⟨by omega, by omega⟩
  have wm : IntKind.i64.wrap (am + 1) = am + 1 := IntWalk.i64_in _ ⟨by omega, by omega⟩
  have wd : IntKind.i64.wrap (ad + 1) = ad + 1 := IntWalk.i64_in _ ⟨by omega, by omega⟩
  have HD := Lib.hid hday
  clear ha ha' b1 hs hday
  go_enter Try.func13, Try.ntmps13
  go_upto_region 2 with fail
  rw [← HD.out]
  obtain ⟨q3, hq3⟩ : ∃ n, n = w.heap.size := ⟨_, rfl⟩
  rw [← hq3]
  refine gen_w (fun W => (Below w.heap.size w W ∧ Blk W q3 #[.int .i64 e, .int .i64 b, .int .i64 u] 24 ∧ Blk W (q3 + 1) #[.int .i64 d, .int .i64 p, .int .i64 f, .int .i64 m, .int .i64 y, .int .i64 s, .int .i64 l] 26)) ⟨by (repeat (first | exact Below.refl _ _ | assumption | (refine Below.alloc ?_ (by first | omega | (simp; omega) | (simp; done)) _) | (refine Below.setCell ?_ (by first | omega | (simp; omega) | (simp; done)) _) | (refine Below.drew ?_) | (refine belowN ?_ _) | (refine Below.trans ?_ (Below.mono ‹Below _ _ _› (by first | omega | (simp; omega) | (simp; done)))))), (Blk.at_ hq3).alloc _, Blk.at_ (by simp [hq3])⟩ ?_
  clear hq3
  rintro V ⟨hw, g3, g4⟩
  (have c0 := g3.cell 0; have c1 := g3.cell 1; have c2 := g3.cell 2; simp at c0 c1 c2)
  go_upto_region 4 with (go_at_call 41; (with_reducible refine (HS1.out _).mono ?_); rintro _ W1 ⟨rfl, hb1⟩)
  obtain ⟨p8, hp8⟩ : ∃ n, n = W1.heap.size := ⟨_, rfl⟩
  rw [← hp8]
  refine gen_w (fun W => (Below w.heap.size w W ∧ Blk W q3 #[.int .i64 e, .int .i64 b, .int .i64 u] 24 ∧ Blk W (q3 + 1) #[.int .i64 d, .int .i64 p, .int .i64 f, .int .i64 m, .int .i64 y, .int .i64 s, .int .i64 l] 26) ∧ Blk W p8 #[.int .i64 ay, .int .i64 am, .int .i64 ad] 75) ⟨⟨bla (bl2 hw hb1), (g3.below hb1 g3.lt).alloc _, (g4.below hb1 g4.lt).alloc _⟩, Blk.at_ hp8⟩ ?_
  clear hb1 hp8 hw g3 g4 c0 c1 c2
  clear V W1
  rintro V ⟨⟨hw, g3, g4⟩, g8⟩
  (have c0 := g3.cell 0; have c1 := g3.cell 1; have c2 := g3.cell 2; simp at c0 c1 c2)
  go_upto_region 5 with (go_at_call 41; (with_reducible refine (HS2.out _).mono ?_); rintro _ W1 ⟨rfl, hb1⟩)
  obtain ⟨p10, hp10⟩ : ∃ n, n = W1.heap.size := ⟨_, rfl⟩
  rw [← hp10]
  refine gen_w (fun W => (Below w.heap.size w W ∧ Blk W q3 #[.int .i64 e, .int .i64 b, .int .i64 u] 24 ∧ Blk W (q3 + 1) #[.int .i64 d, .int .i64 p, .int .i64 f, .int .i64 m, .int .i64 y, .int .i64 s, .int .i64 l] 26) ∧ Blk W p8 #[.int .i64 ay, .int .i64 am, .int .i64 ad] 75 ∧ Blk W p10 #[.int .i64 by', .int .i64 bm, .int .i64 bd'] 75) ⟨⟨bla (bl2 hw hb1), (g3.below hb1 g3.lt).alloc _, (g4.below hb1 g4.lt).alloc _⟩, (g8.below hb1 g8.lt).alloc _, Blk.at_ hp10⟩ ?_
  clear hb1 hp10 hw g3 g4 g8 c0 c1 c2
  clear V W1
  rintro V ⟨⟨hw, g3, g4⟩, g8, g10⟩
  (have c0 := g3.cell 0; have c1 := g3.cell 1; have c2 := g3.cell 2; simp at c0 c1 c2)
  have a0 := g8.cell 0; have a1 := g8.cell 1; have a2 := g8.cell 2
  simp at a0 a1 a2
  go_upto_region 6 with (go_at_call 42; (with_reducible refine (HS3.out _).mono ?_); rintro _ W1 ⟨rfl, hb1⟩)
  refine gen_w (fun W => (Below w.heap.size w W ∧ Blk W q3 #[.int .i64 e, .int .i64 b, .int .i64 u] 24 ∧ Blk W (q3 + 1) #[.int .i64 d, .int .i64 p, .int .i64 f, .int .i64 m, .int .i64 y, .int .i64 s, .int .i64 l] 26) ∧ Blk W p8 #[.int .i64 ay, .int .i64 am, .int .i64 ad] 75 ∧ Blk W p10 #[.int .i64 by', .int .i64 bm, .int .i64 bd'] 75) ⟨⟨bl2 hw hb1, g3.below hb1 g3.lt, g4.below hb1 g4.lt⟩, g8.below hb1 g8.lt, g10.below hb1 g10.lt⟩ ?_
  clear hb1 hw g3 g4 g8 g10 c0 c1 c2 a0 a1 a2
  clear V W1
  rintro V ⟨⟨hw, g3, g4⟩, g8, g10⟩
  have a0 := g8.cell 0; have a1 := g8.cell 1; have a2 := g8.cell 2
  have e0 := g10.cell 0; have e1 := g10.cell 1; have e2 := g10.cell 2
  simp at a0 a1 a2 e0 e1 e2
  clear HS1 HS2 HS3
  obtain ⟨E1, E2, E3, E4, E5⟩ := HC.out
  simp only at E1 E2 E3
  rw [E1] at e2; rw [E2] at e1; rw [E3] at e0; clear E1 E2 E3
  clear g10
  simp only at E4 E5
  subst E4 E5
  go_upto_region 14 with fail
  clear a0 a1 a2 e0 e1 e2
  have hw := hw
  (have c0 := g4.cell 0; have c1 := g4.cell 1; have c2 := g4.cell 2; have c3 := g4.cell 3; have c4 := g4.cell 4; have c5 := g4.cell 5; have c6 := g4.cell 6; simp at c0 c1 c2 c3 c4 c5 c6)
  cases hl : lunB ⟨d, p, f, m, y, s, l⟩ with
  | false =>
    have HL1 := Lib.hid (fun W => lunarVn (day := day) hl W)
    clear hl
    go_wp2_with (first | (go_at_call 46; (with_reducible refine (HL1.out _).mono ?_); rintro _ W1 ⟨rfl, hb1⟩) | (go_at_call 17; refine (known_any _).mono ?_; rintro _ WK ⟨rfl, hbK⟩))
    go_ret
    exact ⟨rfl, bl2 (bla (bl2 hw hb1)) hbK⟩
  | true =>
    obtain ⟨l1, l2, l3, l4⟩ := moon_back (lunB_iff.1 hl) d0 d1
    have lbd := moonI_bd (lunB_iff.1 hl) (d := day)
    obtain ⟨a, ha⟩ : ∃ a, a = moonI ⟨d, p, f, m, y, s, l⟩ day := ⟨_, rfl⟩
    obtain ⟨a', ha'⟩ : ∃ a, a = moonI ⟨d, p, f, m, y, s, l⟩ (day + 1) := ⟨_, rfl⟩
    rw [← ha] at l1 l2 l3 l4 lbd
    rw [← ha'] at l2
    obtain ⟨ay2, am2, ad2, ak2⟩ := a
    obtain ⟨by2, bm2, bd2, bk2⟩ := a'
    simp only at l3 lbd l4
    simp only [nextM] at l2
    have HL1 := Lib.hid (fun W => lunarV hl d0 (by omega) ha.symm W)
    have HL2 := Lib.hid (fun W => lunarV hl (by omega) (by omega) ha'.symm W)
    have HL3 := Lib.hid (fun W => (by have h := lunarDay_any d p f m y s l ay2 am2 ad2 ak2 W; rw [l1] at h; exact h : Calls Try.prog 47 #[.agg #[.int .i64 d, .int .i64 p, .int .i64 f, .int .i64 m, .int .i64 y, .int .i64 s, .int .i64 l], .agg #[.int .i64 ay2, .int .i64 am2, .int .i64 ad2, .bool ak2]] W fun en w' => en = .returned (.tuple #[.int .i64 day, .int .i64 0]) ∧ Below W.heap.size W w'))
    have hyb2 : ay2 ≤ 1000003 := by
      have h9 := (yI_bd (lunB_iff.1 hl) d0 (by omega : day ≤ 1000001)).2
      have h8 : ay2 = yI ⟨d, p, f, m, y, s, l⟩ day := by have := congrArg LDate.y ha; rw [moonI_eq] at this; exact this
      omega
    have t1 : decide (ay2 < 0) = false := by simp; omega
    have t2 : decide (am2 < 1) = false := by simp; omega
    have t3 : decide (12 < am2) = false := by simp; omega
    have t4 : decide (ad2 < 1) = false := by simp; omega
    have t5 : decide (31 < ad2) = false := by simp; omega
    have wy2 : IntKind.i64.wrap (ay2 + 1) = ay2 + 1 := IntWalk.i64_in _ ⟨by omega, by omega⟩
    have wm2 : IntKind.i64.wrap (am2 + 1) = am2 + 1 := IntWalk.i64_in _ ⟨by omega, by omega⟩
    have wd2 : IntKind.i64.wrap (ad2 + 1) = ad2 + 1 := IntWalk.i64_in _ ⟨by omega, by omega⟩
    have HL4 := Lib.hid l4
    clear ha ha' l1 hl l4
    go_upto_region 16 with (go_at_call 46; (with_reducible refine (HL1.out _).mono ?_); rintro _ W1 ⟨rfl, hb1⟩)
    obtain ⟨p14, hp14⟩ : ∃ n, n = W1.heap.size := ⟨_, rfl⟩
    rw [← hp14]
    refine gen_w (fun W => Below w.heap.size w W ∧ Blk W (q3 + 1) #[.int .i64 d, .int .i64 p, .int .i64 f, .int .i64 m, .int .i64 y, .int .i64 s, .int .i64 l] 26 ∧ Blk W p14 #[.int .i64 ay2, .int .i64 am2, .int .i64 ad2, .bool ak2] 77) ⟨bla (bl2 hw hb1), (g4.below hb1 g4.lt).alloc _, Blk.at_ hp14⟩ ?_
    clear hb1 hp14 hw g4 c0 c1 c2 c3 c4 c5 c6
    clear W1
    rintro V2 ⟨hw, g4, g14⟩
    (have c0 := g4.cell 0; have c1 := g4.cell 1; have c2 := g4.cell 2; have c3 := g4.cell 3; have c4 := g4.cell 4; have c5 := g4.cell 5; have c6 := g4.cell 6; simp at c0 c1 c2 c3 c4 c5 c6)
    go_upto_region 17 with (go_at_call 46; (with_reducible refine (HL2.out _).mono ?_); rintro _ W1 ⟨rfl, hb1⟩)
    obtain ⟨p16, hp16⟩ : ∃ n, n = W1.heap.size := ⟨_, rfl⟩
    rw [← hp16]
    refine gen_w (fun W => Below w.heap.size w W ∧ Blk W (q3 + 1) #[.int .i64 d, .int .i64 p, .int .i64 f, .int .i64 m, .int .i64 y, .int .i64 s, .int .i64 l] 26 ∧ Blk W p14 #[.int .i64 ay2, .int .i64 am2, .int .i64 ad2, .bool ak2] 77 ∧ Blk W p16 #[.int .i64 by2, .int .i64 bm2, .int .i64 bd2, .bool bk2] 77) ⟨bla (bl2 hw hb1), (g4.below hb1 g4.lt).alloc _, (g14.below hb1 g14.lt).alloc _, Blk.at_ hp16⟩ ?_
    clear hb1 hp16 hw g4 g14 c0 c1 c2 c3 c4 c5 c6
    clear V2 W1
    rintro V2 ⟨hw, g4, g14, g16⟩
    (have c0 := g4.cell 0; have c1 := g4.cell 1; have c2 := g4.cell 2; have c3 := g4.cell 3; have c4 := g4.cell 4; have c5 := g4.cell 5; have c6 := g4.cell 6; simp at c0 c1 c2 c3 c4 c5 c6)
    have a0 := g14.cell 0; have a1 := g14.cell 1; have a2 := g14.cell 2; have a3 := g14.cell 3
    simp at a0 a1 a2 a3
    go_upto_region 18 with (go_at_call 47; (with_reducible refine (HL3.out _).mono ?_); rintro _ W1 ⟨rfl, hb1⟩)
    refine gen_w (fun W => Below w.heap.size w W ∧ Blk W (q3 + 1) #[.int .i64 d, .int .i64 p, .int .i64 f, .int .i64 m, .int .i64 y, .int .i64 s, .int .i64 l] 26 ∧ Blk W p14 #[.int .i64 ay2, .int .i64 am2, .int .i64 ad2, .bool ak2] 77 ∧ Blk W p16 #[.int .i64 by2, .int .i64 bm2, .int .i64 bd2, .bool bk2] 77) ⟨bl2 hw hb1, g4.below hb1 g4.lt, g14.below hb1 g14.lt, g16.below hb1 g16.lt⟩ ?_
    clear hb1 hw g4 g14 g16 c0 c1 c2 c3 c4 c5 c6 a0 a1 a2 a3
    clear V2 W1
    rintro V2 ⟨hw, g4, g14, g16⟩
    have a0 := g14.cell 0; have a1 := g14.cell 1; have a2 := g14.cell 2; have a3 := g14.cell 3
    have e0 := g16.cell 0; have e1 := g16.cell 1; have e2 := g16.cell 2; have e3 := g16.cell 3; have c6 := g4.cell 6
    simp at a0 a1 a2 a3 e0 e1 e2 e3 c6
    clear HL1 HL2 HL3
    have hk : (ak2 && (am2 != l)) = false := by
      cases ak2 with
      | false => rfl
      | true => have := HL4.out rfl; simp [this]
    have HKK := Lib.hid hk
    clear hk
    clear g16
    rcases l2 with ⟨E1, E2, E3, E4⟩ | ⟨E1, E2, E3, E4, h27⟩ | ⟨E1, E2, E3, E4, rfl, h27⟩ | ⟨E1, E2, E3, E4, E5, h27⟩
    · rw [E1] at e2; rw [E2] at e1; rw [E3] at e0; rw [E4] at e3; clear E1 E2 E3 E4
      cases ak2 with
      | false =>
        go_wp2_with (go_at_call 17; refine (known_any _).mono ?_; rintro _ WK ⟨rfl, hbK⟩)
        go_ret
        exact ⟨rfl, bl2 hw hbK⟩
      | true =>
        obtain rfl : am2 = l := HL4.out rfl
        go_wp2_with (go_at_call 17; refine (known_any _).mono ?_; rintro _ WK ⟨rfl, hbK⟩)
        go_ret
        exact ⟨rfl, bl2 hw hbK⟩
    · rw [E1] at e2; rw [E2] at e1; rw [E3] at e0; rw [E4] at e3; clear E1 E2 E3 E4
      have u1 : ((1 : Int) == ad2 + 1) = false := by simp; omega
      have u2 : decide (27 ≤ ad2) = true := by simp; omega
      cases ak2 with
      | false =>
        go_wp2_with (go_at_call 17; refine (known_any _).mono ?_; rintro _ WK ⟨rfl, hbK⟩)
        go_ret
        exact ⟨rfl, bl2 hw hbK⟩
      | true =>
        obtain rfl : am2 = l := HL4.out rfl
        go_wp2_with (go_at_call 17; refine (known_any _).mono ?_; rintro _ WK ⟨rfl, hbK⟩)
        go_ret
        exact ⟨rfl, bl2 hw hbK⟩
    · rw [E1] at e2; rw [E2] at e1; rw [E3] at e0; rw [E4] at e3; clear E1 E2 E3 E4
      have u1 : ((1 : Int) == ad2 + 1) = false := by simp; omega
      have u2 : decide (27 ≤ ad2) = true := by simp; omega
      have u3 : (am2 == am2 + 1) = false := by simp; omega
      go_wp2_with (go_at_call 17; refine (known_any _).mono ?_; rintro _ WK ⟨rfl, hbK⟩)
      go_ret
      exact ⟨rfl, bl2 hw hbK⟩
    · rw [E1] at e2; rw [E2] at e1; rw [E3] at e0; rw [E4] at e3; clear E1 E2 E3 E4
      have u1 : ((1 : Int) == ad2 + 1) = false := by simp; omega
      have u2 : decide (27 ≤ ad2) = true := by simp; omega
      subst E5
      cases ak2 with
      | false =>
        go_wp2_with (go_at_call 17; refine (known_any _).mono ?_; rintro _ WK ⟨rfl, hbK⟩)
        go_ret
        exact ⟨rfl, bl2 hw hbK⟩
      | true =>
        have hl12 : (12 : Int) = l := HL4.out rfl
        subst hl12
        go_wp2_with (go_at_call 17; refine (known_any _).mono ?_; rintro _ WK ⟨rfl, hbK⟩)
        go_ret
        exact ⟨rfl, bl2 hw hbK⟩
end Go.Proofs.Ytfbnllmmoaialaa
namespace Go.Proofs.Ytfbnllmmoaialaa
open Go.RowKit

theorem lwback_any (e b u d p f m y s l bY : Int) (w : World) (h0 : 0 ≤ bY) (h1 : bY < 4294967296) :
    Calls Try.prog 13 #[.agg #[.int .i64 e, .int .i64 b, .int .i64 u], .agg #[.int .i64 d, .int .i64 p, .int .i64 f, .int .i64 m, .int .i64 y, .int .i64 s, .int .i64 l], .int .u32 bY] w fun en w' => en = .returned (.bool true) ∧ Below w.heap.size w w' := by
  cases hs : solB ⟨e, b, u⟩ with
  | false => exact lwback_0 e b u d p f m y s l bY w h0 h1 hs
  | true =>
    obtain ⟨-, h, -⟩ := sol_back (solB_iff.1 hs) (show 0 ≤ bY % 1000000 by omega) (by omega)
    rcases h with h | h | h
    · exact lwback_1 e b u d p f m y s l bY w h0 h1 hs h
    · exact lwback_2 e b u d p f m y s l bY w h0 h1 hs h
    · exact lwback_3 e b u d p f m y s l bY w h0 h1 hs h
end Go.Proofs.Ytfbnllmmoaialaa

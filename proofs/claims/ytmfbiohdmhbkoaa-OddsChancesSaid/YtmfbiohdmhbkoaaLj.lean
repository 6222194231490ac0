/- The walk of the law OddsChances. -/
import Derived.Test.YtmfbiohdmhbkoaaRo
import Derived.Test.YtmfbiohdmhbkoaaHg
import Derived.Test.YtmfbiohdmhbkoaaHe
namespace Go.Proofs.Ytmfbiohdmhbkoaa
open Go.RowKit

set_option maxRecDepth 100000 in
set_option maxHeartbeats 8000000 in
theorem lwchances_any (n d p q : Int) (w : World) : Calls Try.prog 10 #[.agg #[.int .i64 n, .int .i64 d], .agg #[.int .i64 p, .int .i64 q]] w fun e w' => e = .returned (.bool true) ∧ Below w.heap.size w w' := by
  have HA := Lib.hid (fun W => rchanceB_any n d W)
  have HB := Lib.hid (fun W => rchanceB_any p q W)
  obtain ⟨⟨x, e⟩, hcm⟩ : ∃ x, cmpR ⟨n, d⟩ ⟨p, q⟩ = x := ⟨_, rfl⟩
  obtain ⟨⟨bn, bd, be⟩, hbo⟩ : ∃ x, bothR ⟨n, d⟩ ⟨p, q⟩ = x := ⟨_, rfl⟩
  obtain ⟨⟨nn, nd, ne⟩, hno⟩ : ∃ x, notR ⟨n, d⟩ = x := ⟨_, rfl⟩
  obtain ⟨⟨en, ed, ee⟩, hei⟩ : ∃ x, eitherR ⟨n, d⟩ ⟨p, q⟩ = x := ⟨_, rfl⟩
  have HC1 : Hid (∀ W, Calls Try.prog 41 #[.agg #[.int .i64 n, .int .i64 d], .agg #[.int .i64 p, .int .i64 q]] W fun e' w' => e' = .returned (.tuple #[.int .i64 x, .int .i64 e]) ∧ Below W.heap.size W w') := (fun W => by
    have h := compare_any ⟨n, d⟩ ⟨p, q⟩ W; rw [hcm] at h; exact h : ∀ W, _)
  have HC2 : Hid (∀ W, Calls Try.prog 42 #[.agg #[.int .i64 n, .int .i64 d], .agg #[.int .i64 p, .int .i64 q]] W (RetC (bn, bd, be) W)) := (fun W => by
    have h := both_any ⟨n, d⟩ ⟨p, q⟩ W; rw [hbo] at h; exact h : ∀ W, _)
  have HC3 : Hid (∀ W, Calls Try.prog 43 #[.agg #[.int .i64 n, .int .i64 d]] W (RetC (nn, nd, ne) W)) := (fun W => by
    have h := not_any ⟨n, d⟩ W; rw [hno] at h; exact h : ∀ W, _)
  have HC4 : Hid (∀ W, Calls Try.prog 44 #[.agg #[.int .i64 n, .int .i64 d], .agg #[.int .i64 p, .int .i64 q]] W (RetC (en, ed, ee) W)) := (fun W => by
    have h := either_any ⟨n, d⟩ ⟨p, q⟩ W; rw [hei] at h; exact h : ∀ W, _)
  have HR2 : Hid (∀ W, Calls Try.prog 47 #[.agg #[.int .i64 n, .int .i64 d], .agg #[.int .i64 p, .int .i64 q]] W (RetC (bn, bd, be) W)) := (fun W => by
    have h := rboth_any n d p q W; rw [hbo] at h; exact h : ∀ W, _)
  have HR3 : Hid (∀ W, Calls Try.prog 48 #[.agg #[.int .i64 n, .int .i64 d]] W (RetC (nn, nd, ne) W)) := (fun W => by
    have h := rnot_any n d W; rw [hno] at h; exact h : ∀ W, _)
  have HR4 : Hid (∀ W, Calls Try.prog 49 #[.agg #[.int .i64 n, .int .i64 d], .agg #[.int .i64 p, .int .i64 q]] W (RetC (en, ed, ee) W)) := (fun W => by
    have h := reither_any n d p q W; rw [hei] at h; exact h : ∀ W, _)
  clear hbo hno hei
  by_cases ok1 : okC ⟨n, d⟩ = true
  · by_cases ok2 : okC ⟨p, q⟩ = true
    · have HRC := Lib.hid (fun W => rcompare_any n d p q W (okC_iff.1 ok1) (okC_iff.1 ok2))
      have okp : okP ⟨n, d⟩ ⟨p, q⟩ = true := by unfold okP; rw [ok1, ok2]; rfl
      unfold cmpR at hcm
      rw [if_pos okp] at hcm
      injection hcm with e1 e2
      subst e2
      simp only at e1
      rw [e1] at HRC
      rw [ok1] at HA
      rw [ok2] at HB
      clear ok1 ok2 okp e1
      go_enter Try.func10, Try.ntmps10
      go_wp2_with (go_at_call 41; refine (HC1.out _).mono ?_; rintro _ W1 ⟨rfl, hb1⟩; refine Hid.out ?_)
      have hw : Below w.heap.size w W1 := bl3 (bla (Below.refl _ _)) hb1
      have ga : Blk W1 w.heap.size #[.int .i64 n, .int .i64 d] 51 := ((Blk.at_ rfl).alloc _).below hb1 (by first | omega | (simp; omega) | (simp; done))
      have gb : Blk W1 (w.heap.size + 1) #[.int .i64 p, .int .i64 q] 51 := (Blk.at_ (by simp)).below hb1 (by first | omega | (simp; omega) | (simp; done))
      have c0 := ga.cell 0; have c1 := ga.cell 1; have c2 := gb.cell 0; have c3 := gb.cell 1
      have la := ga.lt; have lb := gb.lt
      simp at c0 c1 c2 c3
      clear hb1
      refine Lib.hid ?_
      go_wp2_with (go_at_call 42; refine (HC2.out _).mono ?_; rintro _ W2 ⟨rfl, hb⟩; refine Hid.out ?_)
      have ga := ga.below hb ga.lt; have gb := gb.below hb gb.lt
      have hw := bl2 hw hb
      clear c0 c1 c2 c3 la lb
      have c0 := ga.cell 0; have c1 := ga.cell 1; have c2 := gb.cell 0; have c3 := gb.cell 1
      have la := ga.lt; have lb := gb.lt
      simp at c0 c1 c2 c3
      clear hb
      have g7 := Blk.new W2 #[.int .i64 bn, .int .i64 bd] 51
      refine Lib.hid ?_
      go_wp2_with (go_at_call 43; refine (HC3.out _).mono ?_; rintro _ W3 ⟨rfl, hb3⟩; refine Hid.out ?_)
      have g7 := g7.below hb3 g7.lt
      have ga := (ga.alloc _).below hb3 (ga.alloc _).lt; have gb := (gb.alloc _).below hb3 (gb.alloc _).lt
      have hw := bl3 hw hb3
      clear c0 c1 c2 c3 la lb
      have c0 := ga.cell 0; have c1 := ga.cell 1; have c2 := gb.cell 0; have c3 := gb.cell 1
      have la := ga.lt; have lb := gb.lt
      simp at c0 c1 c2 c3
      have g9 := Blk.new W3 #[.int .i64 nn, .int .i64 nd] 51
      clear hb3
      refine Lib.hid ?_
      go_wp2_with (go_at_call 44; refine (HC4.out _).mono ?_; rintro _ W4 ⟨rfl, hb4⟩; refine Hid.out ?_)
      have g7 := (g7.alloc _).below hb4 (g7.alloc _).lt
      have g9 := g9.below hb4 g9.lt
      have ga := (ga.alloc _).below hb4 (ga.alloc _).lt; have gb := (gb.alloc _).below hb4 (gb.alloc _).lt
      have hw := bl3 hw hb4
      clear c0 c1 c2 c3 la lb
      have c0 := ga.cell 0; have c1 := ga.cell 1; have c2 := gb.cell 0; have c3 := gb.cell 1
      have la := ga.lt; have lb := gb.lt
      simp at c0 c1 c2 c3
      have g11 := Blk.new W4 #[.int .i64 en, .int .i64 ed] 51
      have g7 := g7.alloc (.cells #[.int .i64 en, .int .i64 ed] 51)
      have g9 := g9.alloc (.cells #[.int .i64 en, .int .i64 ed] 51)
      have ga := ga.alloc (.cells #[.int .i64 en, .int .i64 ed] 51)
      have gb := gb.alloc (.cells #[.int .i64 en, .int .i64 ed] 51)
      have hw := bla (o := .cells #[.int .i64 en, .int .i64 ed] 51) hw
      clear hb4
      obtain ⟨B7, hB7⟩ : ∃ b, b = W2.heap.size := ⟨_, rfl⟩
      obtain ⟨B9, hB9⟩ : ∃ b, b = W3.heap.size := ⟨_, rfl⟩
      obtain ⟨B11, hB11⟩ : ∃ b, b = W4.heap.size := ⟨_, rfl⟩
      rw [← hB7] at g7
      rw [← hB9] at g9
      rw [← hB11] at g11
      refine Lib.hid ?_
      go_upto_region 10 with (first | (go_at_call 46; (with_reducible refine (HRC.out _).mono ?_); rintro _ W7 ⟨rfl, hb7⟩; have ga := ga.below hb7 ga.lt; have gb := gb.below hb7 gb.lt; have g7 := g7.below hb7 g7.lt; have g9 := g9.below hb7 g9.lt; have g11 := g11.below hb7 g11.lt; have hw := bl2 hw hb7; have c0 := ga.cell 0; have c1 := ga.cell 1; have c2 := gb.cell 0; have c3 := gb.cell 1; simp at c0 c1 c2 c3) | (go_at_call 45; have _ := hb5; (with_reducible refine (HB.out _).mono ?_); rintro _ W6 ⟨rfl, hb6⟩; have ga := ga.below hb6 ga.lt; have gb := gb.below hb6 gb.lt; have g7 := g7.below hb6 g7.lt; have g9 := g9.below hb6 g9.lt; have g11 := g11.below hb6 g11.lt; have hw := bl2 hw hb6; have c0 := ga.cell 0; have c1 := ga.cell 1; have c2 := gb.cell 0; have c3 := gb.cell 1; simp at c0 c1 c2 c3) | (go_at_call 45; (with_reducible refine (HA.out _).mono ?_); rintro _ W5 ⟨rfl, hb5⟩; have ga := ga.below hb5 ga.lt; have gb := gb.below hb5 gb.lt; have g7 := g7.below hb5 g7.lt; have g9 := g9.below hb5 g9.lt; have g11 := g11.below hb5 g11.lt; have hw := bl2 hw hb5; have c0 := ga.cell 0; have c1 := ga.cell 1; have c2 := gb.cell 0; have c3 := gb.cell 1; simp at c0 c1 c2 c3))
      refine gen_w (fun W => Below w.heap.size w W ∧ Blk W w.heap.size #[.int .i64 n, .int .i64 d] 51 ∧ Blk W (w.heap.size + 1) #[.int .i64 p, .int .i64 q] 51 ∧ Blk W B7 #[.int .i64 bn, .int .i64 bd] 51 ∧ Blk W B9 #[.int .i64 nn, .int .i64 nd] 51 ∧ Blk W B11 #[.int .i64 en, .int .i64 ed] 51) ⟨hw, ga, gb, g7, g9, g11⟩ ?_
      rw [← hB7, ← hB9, ← hB11]
      clear hw ga gb g7 g9 g11 c0 c1 c2 c3 la lb hB7 hB9 hB11
      rintro V0 ⟨hw, ga, gb, g7, g9, g11⟩
      have c0 := ga.cell 0; have c1 := ga.cell 1; have c2 := gb.cell 0; have c3 := gb.cell 1
      have la := ga.lt; have lb := gb.lt
      simp at c0 c1 c2 c3
      go_wp2_with (go_at_call 47; refine (HR2.out _).mono ?_; rintro _ V1 ⟨rfl, hb⟩; refine Hid.out ?_)
      have ga := ga.below hb ga.lt; have gb := gb.below hb gb.lt
      have hw := bl2 hw hb
      clear c0 c1 c2 c3 la lb
      have c0 := ga.cell 0; have c1 := ga.cell 1; have c2 := gb.cell 0; have c3 := gb.cell 1
      have la := ga.lt; have lb := gb.lt
      simp at c0 c1 c2 c3
      have g7 := g7.below hb g7.lt; have g9 := g9.below hb g9.lt; have g11 := g11.below hb g11.lt
      have g13 := Blk.new V1 #[.int .i64 bn, .int .i64 bd] 51
      clear hb
      refine Lib.hid ?_
      go_wp2_with (go_at_call 48; refine (HR3.out _).mono ?_; rintro _ V2 ⟨rfl, hb⟩; refine Hid.out ?_)
      have g7 := (g7.alloc _).below hb (g7.alloc _).lt; have g9 := (g9.alloc _).below hb (g9.alloc _).lt; have g11 := (g11.alloc _).below hb (g11.alloc _).lt
      have g13 := g13.below hb g13.lt
      have ga := (ga.alloc _).below hb (ga.alloc _).lt; have gb := (gb.alloc _).below hb (gb.alloc _).lt
      have hw := bl3 hw hb
      clear c0 c1 c2 c3 la lb
      have c0 := ga.cell 0; have c1 := ga.cell 1; have c2 := gb.cell 0; have c3 := gb.cell 1
      have la := ga.lt; have lb := gb.lt
      simp at c0 c1 c2 c3
      have g15 := Blk.new V2 #[.int .i64 nn, .int .i64 nd] 51
      clear hb
      refine Lib.hid ?_
      go_wp2_with (go_at_call 49; refine (HR4.out _).mono ?_; rintro _ V3 ⟨rfl, hb⟩; refine Hid.out ?_)
      have g7 := (g7.alloc _).below hb (g7.alloc _).lt; have g9 := (g9.alloc _).below hb (g9.alloc _).lt; have g11 := (g11.alloc _).below hb (g11.alloc _).lt
      have g13 := (g13.alloc _).below hb (g13.alloc _).lt
      have g15 := g15.below hb g15.lt
      have hw := bl3 hw hb
      have l7 := g7.lt; have l9 := g9.lt; have l11 := g11.lt; have l13 := g13.lt; have l15 := g15.lt
      have a0 := g7.cell 0; have a1 := g7.cell 1; have a2 := g9.cell 0; have a3 := g9.cell 1; have a4 := g11.cell 0; have a5 := g11.cell 1
      have a6 := g13.cell 0; have a7 := g13.cell 1; have a8 := g15.cell 0; have a9 := g15.cell 1
      simp at a0 a1 a2 a3 a4 a5 a6 a7 a8 a9
      clear hb g7 g9 g11 g13 g15 ga gb c0 c1 c2 c3 la lb HR2 HR3 HR4
      refine Lib.hid ?_
      go_wp2_with (go_at_call 16; refine (known_any _).mono ?_; rintro _ V4 ⟨rfl, hb4⟩)
      go_ret
      exact ⟨rfl, bl3 hw hb4⟩
    · have okp : ¬ okP ⟨n, d⟩ ⟨p, q⟩ = true := by unfold okP; rw [ok1]; simpa using ok2
      have ok2' : okC ⟨p, q⟩ = false := by simpa using ok2
      unfold cmpR at hcm
      rw [if_neg okp] at hcm
      injection hcm with e1 e2
      subst e1; subst e2
      rw [ok1] at HA
      rw [ok2'] at HB
      clear ok1 ok2 okp ok2'
      go_enter Try.func10, Try.ntmps10
      go_wp2_with (go_at_call 41; refine (HC1.out _).mono ?_; rintro _ W1 ⟨rfl, hb1⟩; refine Hid.out ?_)
      have hw : Below w.heap.size w W1 := bl3 (bla (Below.refl _ _)) hb1
      have ga : Blk W1 w.heap.size #[.int .i64 n, .int .i64 d] 51 := ((Blk.at_ rfl).alloc _).below hb1 (by first | omega | (simp; omega) | (simp; done))
      have gb : Blk W1 (w.heap.size + 1) #[.int .i64 p, .int .i64 q] 51 := (Blk.at_ (by simp)).below hb1 (by first | omega | (simp; omega) | (simp; done))
      have c0 := ga.cell 0; have c1 := ga.cell 1; have c2 := gb.cell 0; have c3 := gb.cell 1
      have la := ga.lt; have lb := gb.lt
      simp at c0 c1 c2 c3
      clear hb1
      refine Lib.hid ?_
      go_wp2_with (go_at_call 42; refine (HC2.out _).mono ?_; rintro _ W2 ⟨rfl, hb⟩; refine Hid.out ?_)
      have ga := ga.below hb ga.lt; have gb := gb.below hb gb.lt
      have hw := bl2 hw hb
      clear c0 c1 c2 c3 la lb
      have c0 := ga.cell 0; have c1 := ga.cell 1; have c2 := gb.cell 0; have c3 := gb.cell 1
      have la := ga.lt; have lb := gb.lt
      simp at c0 c1 c2 c3
      clear hb
      have g7 := Blk.new W2 #[.int .i64 bn, .int .i64 bd] 51
      refine Lib.hid ?_
      go_wp2_with (go_at_call 43; refine (HC3.out _).mono ?_; rintro _ W3 ⟨rfl, hb3⟩; refine Hid.out ?_)
      have g7 := g7.below hb3 g7.lt
      have ga := (ga.alloc _).below hb3 (ga.alloc _).lt; have gb := (gb.alloc _).below hb3 (gb.alloc _).lt
      have hw := bl3 hw hb3
      clear c0 c1 c2 c3 la lb
      have c0 := ga.cell 0; have c1 := ga.cell 1; have c2 := gb.cell 0; have c3 := gb.cell 1
      have la := ga.lt; have lb := gb.lt
      simp at c0 c1 c2 c3
      have g9 := Blk.new W3 #[.int .i64 nn, .int .i64 nd] 51
      clear hb3
      refine Lib.hid ?_
      go_wp2_with (go_at_call 44; refine (HC4.out _).mono ?_; rintro _ W4 ⟨rfl, hb4⟩; refine Hid.out ?_)
      have g7 := (g7.alloc _).below hb4 (g7.alloc _).lt
      have g9 := g9.below hb4 g9.lt
      have ga := (ga.alloc _).below hb4 (ga.alloc _).lt; have gb := (gb.alloc _).below hb4 (gb.alloc _).lt
      have hw := bl3 hw hb4
      clear c0 c1 c2 c3 la lb
      have c0 := ga.cell 0; have c1 := ga.cell 1; have c2 := gb.cell 0; have c3 := gb.cell 1
      have la := ga.lt; have lb := gb.lt
      simp at c0 c1 c2 c3
      have g11 := Blk.new W4 #[.int .i64 en, .int .i64 ed] 51
      have g7 := g7.alloc (.cells #[.int .i64 en, .int .i64 ed] 51)
      have g9 := g9.alloc (.cells #[.int .i64 en, .int .i64 ed] 51)
      have ga := ga.alloc (.cells #[.int .i64 en, .int .i64 ed] 51)
      have gb := gb.alloc (.cells #[.int .i64 en, .int .i64 ed] 51)
      have hw := bla (o := .cells #[.int .i64 en, .int .i64 ed] 51) hw
      clear hb4
      obtain ⟨B7, hB7⟩ : ∃ b, b = W2.heap.size := ⟨_, rfl⟩
      obtain ⟨B9, hB9⟩ : ∃ b, b = W3.heap.size := ⟨_, rfl⟩
      obtain ⟨B11, hB11⟩ : ∃ b, b = W4.heap.size := ⟨_, rfl⟩
      rw [← hB7] at g7
      rw [← hB9] at g9
      rw [← hB11] at g11
      refine Lib.hid ?_
      go_upto_region 10 with (first | (go_at_call 46; (with_reducible refine (HRC.out _).mono ?_); rintro _ W7 ⟨rfl, hb7⟩; have ga := ga.below hb7 ga.lt; have gb := gb.below hb7 gb.lt; have g7 := g7.below hb7 g7.lt; have g9 := g9.below hb7 g9.lt; have g11 := g11.below hb7 g11.lt; have hw := bl2 hw hb7; have c0 := ga.cell 0; have c1 := ga.cell 1; have c2 := gb.cell 0; have c3 := gb.cell 1; simp at c0 c1 c2 c3) | (go_at_call 45; have _ := hb5; (with_reducible refine (HB.out _).mono ?_); rintro _ W6 ⟨rfl, hb6⟩; have ga := ga.below hb6 ga.lt; have gb := gb.below hb6 gb.lt; have g7 := g7.below hb6 g7.lt; have g9 := g9.below hb6 g9.lt; have g11 := g11.below hb6 g11.lt; have hw := bl2 hw hb6; have c0 := ga.cell 0; have c1 := ga.cell 1; have c2 := gb.cell 0; have c3 := gb.cell 1; simp at c0 c1 c2 c3) | (go_at_call 45; (with_reducible refine (HA.out _).mono ?_); rintro _ W5 ⟨rfl, hb5⟩; have ga := ga.below hb5 ga.lt; have gb := gb.below hb5 gb.lt; have g7 := g7.below hb5 g7.lt; have g9 := g9.below hb5 g9.lt; have g11 := g11.below hb5 g11.lt; have hw := bl2 hw hb5; have c0 := ga.cell 0; have c1 := ga.cell 1; have c2 := gb.cell 0; have c3 := gb.cell 1; simp at c0 c1 c2 c3))
      refine gen_w (fun W => Below w.heap.size w W ∧ Blk W w.heap.size #[.int .i64 n, .int .i64 d] 51 ∧ Blk W (w.heap.size + 1) #[.int .i64 p, .int .i64 q] 51 ∧ Blk W B7 #[.int .i64 bn, .int .i64 bd] 51 ∧ Blk W B9 #[.int .i64 nn, .int .i64 nd] 51 ∧ Blk W B11 #[.int .i64 en, .int .i64 ed] 51) ⟨hw, ga, gb, g7, g9, g11⟩ ?_
      rw [← hB7, ← hB9, ← hB11]
      clear hw ga gb g7 g9 g11 c0 c1 c2 c3 la lb hB7 hB9 hB11
      rintro V0 ⟨hw, ga, gb, g7, g9, g11⟩
      have c0 := ga.cell 0; have c1 := ga.cell 1; have c2 := gb.cell 0; have c3 := gb.cell 1
      have la := ga.lt; have lb := gb.lt
      simp at c0 c1 c2 c3
      go_wp2_with (go_at_call 47; refine (HR2.out _).mono ?_; rintro _ V1 ⟨rfl, hb⟩; refine Hid.out ?_)
      have ga := ga.below hb ga.lt; have gb := gb.below hb gb.lt
      have hw := bl2 hw hb
      clear c0 c1 c2 c3 la lb
      have c0 := ga.cell 0; have c1 := ga.cell 1; have c2 := gb.cell 0; have c3 := gb.cell 1
      have la := ga.lt; have lb := gb.lt
      simp at c0 c1 c2 c3
      have g7 := g7.below hb g7.lt; have g9 := g9.below hb g9.lt; have g11 := g11.below hb g11.lt
      have g13 := Blk.new V1 #[.int .i64 bn, .int .i64 bd] 51
      clear hb
      refine Lib.hid ?_
      go_wp2_with (go_at_call 48; refine (HR3.out _).mono ?_; rintro _ V2 ⟨rfl, hb⟩; refine Hid.out ?_)
      have g7 := (g7.alloc _).below hb (g7.alloc _).lt; have g9 := (g9.alloc _).below hb (g9.alloc _).lt; have g11 := (g11.alloc _).below hb (g11.alloc _).lt
      have g13 := g13.below hb g13.lt
      have ga := (ga.alloc _).below hb (ga.alloc _).lt; have gb := (gb.alloc _).below hb (gb.alloc _).lt
      have hw := bl3 hw hb
      clear c0 c1 c2 c3 la lb
      have c0 := ga.cell 0; have c1 := ga.cell 1; have c2 := gb.cell 0; have c3 := gb.cell 1
      have la := ga.lt; have lb := gb.lt
      simp at c0 c1 c2 c3
      have g15 := Blk.new V2 #[.int .i64 nn, .int .i64 nd] 51
      clear hb
      refine Lib.hid ?_
      go_wp2_with (go_at_call 49; refine (HR4.out _).mono ?_; rintro _ V3 ⟨rfl, hb⟩; refine Hid.out ?_)
      have g7 := (g7.alloc _).below hb (g7.alloc _).lt; have g9 := (g9.alloc _).below hb (g9.alloc _).lt; have g11 := (g11.alloc _).below hb (g11.alloc _).lt
      have g13 := (g13.alloc _).below hb (g13.alloc _).lt
      have g15 := g15.below hb g15.lt
      have hw := bl3 hw hb
      have l7 := g7.lt; have l9 := g9.lt; have l11 := g11.lt; have l13 := g13.lt; have l15 := g15.lt
      have a0 := g7.cell 0; have a1 := g7.cell 1; have a2 := g9.cell 0; have a3 := g9.cell 1; have a4 := g11.cell 0; have a5 := g11.cell 1
      have a6 := g13.cell 0; have a7 := g13.cell 1; have a8 := g15.cell 0; have a9 := g15.cell 1
      simp at a0 a1 a2 a3 a4 a5 a6 a7 a8 a9
      clear hb g7 g9 g11 g13 g15 ga gb c0 c1 c2 c3 la lb HR2 HR3 HR4
      refine Lib.hid ?_
      go_wp2_with (go_at_call 16; refine (known_any _).mono ?_; rintro _ V4 ⟨rfl, hb4⟩)
      go_ret
      exact ⟨rfl, bl3 hw hb4⟩
  · have ok1' : okC ⟨n, d⟩ = false := by simpa using ok1
    have okp : ¬ okP ⟨n, d⟩ ⟨p, q⟩ = true := by unfold okP; rw [ok1']; simp
    unfold cmpR at hcm
    rw [if_neg okp] at hcm
    injection hcm with e1 e2
    subst e1; subst e2
    rw [ok1'] at HA
    clear ok1 okp ok1'
    go_enter Try.func10, Try.ntmps10
    go_wp2_with (go_at_call 41; refine (HC1.out _).mono ?_; rintro _ W1 ⟨rfl, hb1⟩; refine Hid.out ?_)
    have hw : Below w.heap.size w W1 := bl3 (bla (Below.refl _ _)) hb1
    have ga : Blk W1 w.heap.size #[.int .i64 n, .int .i64 d] 51 := ((Blk.at_ rfl).alloc _).below hb1 (by first | omega | (simp; omega) | (simp; done))
    have gb : Blk W1 (w.heap.size + 1) #[.int .i64 p, .int .i64 q] 51 := (Blk.at_ (by simp)).below hb1 (by first | omega | (simp; omega) | (simp; done))
    have c0 := ga.cell 0; have c1 := ga.cell 1; have c2 := gb.cell 0; have c3 := gb.cell 1
    have la := ga.lt; have lb := gb.lt
    simp at c0 c1 c2 c3
    clear hb1
    refine Lib.hid ?_
    go_wp2_with (go_at_call 42; refine (HC2.out _).mono ?_; rintro _ W2 ⟨rfl, hb⟩; refine Hid.out ?_)
    have ga := ga.below hb ga.lt; have gb := gb.below hb gb.lt
    have hw := bl2 hw hb
    clear c0 c1 c2 c3 la lb
    have c0 := ga.cell 0; have c1 := ga.cell 1; have c2 := gb.cell 0; have c3 := gb.cell 1
    have la := ga.lt; have lb := gb.lt
    simp at c0 c1 c2 c3
    clear hb
    have g7 := Blk.new W2 #[.int .i64 bn, .int .i64 bd] 51
    refine Lib.hid ?_
    go_wp2_with (go_at_call 43; refine (HC3.out _).mono ?_; rintro _ W3 ⟨rfl, hb3⟩; refine Hid.out ?_)
    have g7 := g7.below hb3 g7.lt
    have ga := (ga.alloc _).below hb3 (ga.alloc _).lt; have gb := (gb.alloc _).below hb3 (gb.alloc _).lt
    have hw := bl3 hw hb3
    clear c0 c1 c2 c3 la lb
    have c0 := ga.cell 0; have c1 := ga.cell 1; have c2 := gb.cell 0; have c3 := gb.cell 1
    have la := ga.lt; have lb := gb.lt
    simp at c0 c1 c2 c3
    have g9 := Blk.new W3 #[.int .i64 nn, .int .i64 nd] 51
    clear hb3
    refine Lib.hid ?_
    go_wp2_with (go_at_call 44; refine (HC4.out _).mono ?_; rintro _ W4 ⟨rfl, hb4⟩; refine Hid.out ?_)
    have g7 := (g7.alloc _).below hb4 (g7.alloc _).lt
    have g9 := g9.below hb4 g9.lt
    have ga := (ga.alloc _).below hb4 (ga.alloc _).lt; have gb := (gb.alloc _).below hb4 (gb.alloc _).lt
    have hw := bl3 hw hb4
    clear c0 c1 c2 c3 la lb
    have c0 := ga.cell 0; have c1 := ga.cell 1; have c2 := gb.cell 0; have c3 := gb.cell 1
    have la := ga.lt; have lb := gb.lt
    simp at c0 c1 c2 c3
    have g11 := Blk.new W4 #[.int .i64 en, .int .i64 ed] 51
    have g7 := g7.alloc (.cells #[.int .i64 en, .int .i64 ed] 51)
    have g9 := g9.alloc (.cells #[.int .i64 en, .int .i64 ed] 51)
    have ga := ga.alloc (.cells #[.int .i64 en, .int .i64 ed] 51)
    have gb := gb.alloc (.cells #[.int .i64 en, .int .i64 ed] 51)
    have hw := bla (o := .cells #[.int .i64 en, .int .i64 ed] 51) hw
    clear hb4
    obtain ⟨B7, hB7⟩ : ∃ b, b = W2.heap.size := ⟨_, rfl⟩
    obtain ⟨B9, hB9⟩ : ∃ b, b = W3.heap.size := ⟨_, rfl⟩
    obtain ⟨B11, hB11⟩ : ∃ b, b = W4.heap.size := ⟨_, rfl⟩
    rw [← hB7] at g7
    rw [← hB9] at g9
    rw [← hB11] at g11
    refine Lib.hid ?_
    go_upto_region 10 with (first | (go_at_call 46; (with_reducible refine (HRC.out _).mono ?_); rintro _ W7 ⟨rfl, hb7⟩; have ga := ga.below hb7 ga.lt; have gb := gb.below hb7 gb.lt; have g7 := g7.below hb7 g7.lt; have g9 := g9.below hb7 g9.lt; have g11 := g11.below hb7 g11.lt; have hw := bl2 hw hb7; have c0 := ga.cell 0; have c1 := ga.cell 1; have c2 := gb.cell 0; have c3 := gb.cell 1; simp at c0 c1 c2 c3) | (go_at_call 45; have _ := hb5; (with_reducible refine (HB.out _).mono ?_); rintro _ W6 ⟨rfl, hb6⟩; have ga := ga.below hb6 ga.lt; have gb := gb.below hb6 gb.lt; have g7 := g7.below hb6 g7.lt; have g9 := g9.below hb6 g9.lt; have g11 := g11.below hb6 g11.lt; have hw := bl2 hw hb6; have c0 := ga.cell 0; have c1 := ga.cell 1; have c2 := gb.cell 0; have c3 := gb.cell 1; simp at c0 c1 c2 c3) | (go_at_call 45; (with_reducible refine (HA.out _).mono ?_); rintro _ W5 ⟨rfl, hb5⟩; have ga := ga.below hb5 ga.lt; have gb := gb.below hb5 gb.lt; have g7 := g7.below hb5 g7.lt; have g9 := g9.below hb5 g9.lt; have g11 := g11.below hb5 g11.lt; have hw := bl2 hw hb5; have c0 := ga.cell 0; have c1 := ga.cell 1; have c2 := gb.cell 0; have c3 := gb.cell 1; simp at c0 c1 c2 c3))
    refine gen_w (fun W => Below w.heap.size w W ∧ Blk W w.heap.size #[.int .i64 n, .int .i64 d] 51 ∧ Blk W (w.heap.size + 1) #[.int .i64 p, .int .i64 q] 51 ∧ Blk W B7 #[.int .i64 bn, .int .i64 bd] 51 ∧ Blk W B9 #[.int .i64 nn, .int .i64 nd] 51 ∧ Blk W B11 #[.int .i64 en, .int .i64 ed] 51) ⟨hw, ga, gb, g7, g9, g11⟩ ?_
    rw [← hB7, ← hB9, ← hB11]
    clear hw ga gb g7 g9 g11 c0 c1 c2 c3 la lb hB7 hB9 hB11
    rintro V0 ⟨hw, ga, gb, g7, g9, g11⟩
    have c0 := ga.cell 0; have c1 := ga.cell 1; have c2 := gb.cell 0; have c3 := gb.cell 1
    have la := ga.lt; have lb := gb.lt
    simp at c0 c1 c2 c3
    go_wp2_with (go_at_call 47; refine (HR2.out _).mono ?_; rintro _ V1 ⟨rfl, hb⟩; refine Hid.out ?_)
    have ga := ga.below hb ga.lt; have gb := gb.below hb gb.lt
    have hw := bl2 hw hb
    clear c0 c1 c2 c3 la lb
    have c0 := ga.cell 0; have c1 := ga.cell 1; have c2 := gb.cell 0; have c3 := gb.cell 1
    have la := ga.lt; have lb := gb.lt
    simp at c0 c1 c2 c3
    have g7 := g7.below hb g7.lt; have g9 := g9.below hb g9.lt; have g11 := g11.below hb g11.lt
    have g13 := Blk.new V1 #[.int .i64 bn, .int .i64 bd] 51
    clear hb
    refine Lib.hid ?_
    go_wp2_with (go_at_call 48; refine (HR3.out _).mono ?_; rintro _ V2 ⟨rfl, hb⟩; refine Hid.out ?_)
    have g7 := (g7.alloc _).below hb (g7.alloc _).lt; have g9 := (g9.alloc _).below hb (g9.alloc _).lt; have g11 := (g11.alloc _).below hb (g11.alloc _).lt
    have g13 := g13.below hb g13.lt
    have ga := (ga.alloc _).below hb (ga.alloc _).lt; have gb := (gb.alloc _).below hb (gb.alloc _).lt
    have hw := bl3 hw hb
    clear c0 c1 c2 c3 la lb
    have c0 := ga.cell 0; have c1 := ga.cell 1; have c2 := gb.cell 0; have c3 := gb.cell 1
    have la := ga.lt; have lb := gb.lt
    simp at c0 c1 c2 c3
    have g15 := Blk.new V2 #[.int .i64 nn, .int .i64 nd] 51
    clear hb
    refine Lib.hid ?_
    go_wp2_with (go_at_call 49; refine (HR4.out _).mono ?_; rintro _ V3 ⟨rfl, hb⟩; refine Hid.out ?_)
    have g7 := (g7.alloc _).below hb (g7.alloc _).lt; have g9 := (g9.alloc _).below hb (g9.alloc _).lt; have g11 := (g11.alloc _).below hb (g11.alloc _).lt
    have g13 := (g13.alloc _).below hb (g13.alloc _).lt
    have g15 := g15.below hb g15.lt
    have hw := bl3 hw hb
    have l7 := g7.lt; have l9 := g9.lt; have l11 := g11.lt; have l13 := g13.lt; have l15 := g15.lt
    have a0 := g7.cell 0; have a1 := g7.cell 1; have a2 := g9.cell 0; have a3 := g9.cell 1; have a4 := g11.cell 0; have a5 := g11.cell 1
    have a6 := g13.cell 0; have a7 := g13.cell 1; have a8 := g15.cell 0; have a9 := g15.cell 1
    simp at a0 a1 a2 a3 a4 a5 a6 a7 a8 a9
    clear hb g7 g9 g11 g13 g15 ga gb c0 c1 c2 c3 la lb HR2 HR3 HR4
    refine Lib.hid ?_
    go_wp2_with (go_at_call 16; refine (known_any _).mono ?_; rintro _ V4 ⟨rfl, hb4⟩)
    go_ret
    exact ⟨rfl, bl3 hw hb4⟩
end Go.Proofs.Ytmfbiohdmhbkoaa

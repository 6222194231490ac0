/- The walk of the law OddsFar. -/
import Derived.Test.YtmfbiohdmhbkoaaHe
import Derived.Test.YtmfbiohdmhbkoaaLg
import Derived.Test.YtmfbiohdmhbkoaaGr
import Derived.Test.YtmfbiohdmhbkoaaGy
import Derived.Test.YtmfbiohdmhbkoaaQd
import Derived.Test.YtmfbiohdmhbkoaaBits
namespace Go.Proofs.Ytmfbiohdmhbkoaa
open Go.RowKit

theorem map3_cases {a b tl : List Int} (ha : OkW a) (hb : OkW b) (hl : a.length = b.length) (h : (mapR a tl 3).2 = 0) :
    mapR a tl 3 = (mapTo a tl 3 a.length, 0) ∧ mapR b tl 3 = (mapTo b tl 3 b.length, 0) ∧ tl.length = a.length ∧ ∀ x ∈ tl, 0 ≤ x ∧ x < (3 : Nat) := by
  unfold mapR at h
  rw [if_neg (fun hh => hh (errW_zero.2 ha)), if_neg (by omega)] at h
  by_cases hc : tl.length ≠ a.length ∨ tl.any (outB 3) = true
  · rw [if_pos hc] at h; cases h
  · have h1 : tl.length = a.length := Classical.byContradiction fun hh => hc (.inl hh)
    have h2 : ¬ tl.any (outB 3) = true := fun hh => hc (.inr hh)
    refine ⟨?_, ?_, h1, ?_⟩
    · unfold mapR
      rw [if_neg (fun hh => hh (errW_zero.2 ha)), if_neg (by omega), if_neg hc]; rfl
    · unfold mapR
      rw [if_neg (fun hh => hh (errW_zero.2 hb)), if_neg (by omega), if_neg (by rw [← hl]; exact hc)]; rfl
    · intro x hx
      rw [Bool.not_eq_true, List.any_eq_false] at h2
      have := h2 x hx
      simp [outB] at this
      omega
set_option maxRecDepth 100000 in
set_option maxHeartbeats 16000000 in
theorem lwfar_any (A B A3 A4 : Option Addr) (c c2 c3 c4 : Nat) (a b l3 tl : List Int) (M : Nat) (w : World) (m1 : M < 4294967296) (hz : A = none → c = 0) (hz2 : B = none → c2 = 0) (hz3 : A3 = none → c3 = 0) (hz4 : A4 = none → c4 = 0)
    (hr : Sl intCell 1 w w.heap.size A a) (hr2 : Sl intCell 1 w w.heap.size B b) (hr3 : Sl intCell 1 w w.heap.size A3 l3) (hr4 : Sl intCell 1 w w.heap.size A4 tl) :
    Calls Try.prog 13 #[.slice A a.length c, .slice B b.length c2, .agg #[.slice A3 l3.length c3, .int .u32 M, .slice A4 tl.length c4]] w fun e w' => e = .returned (.bool true) ∧ Below w.heap.size w w' := by
  obtain ⟨i0, hi, iz0, iz1, iz2⟩ := info_parts infoInt
  have HR := Lib.hid hr; have HR2 := Lib.hid hr2; have HR3 := Lib.hid hr3; have HR4 := Lib.hid hr4
  have HZ := Lib.hid hz; have HZ2 := Lib.hid hz2; have HZ3 := Lib.hid hz3; have HZ4 := Lib.hid hz4
  clear hr hr2 hr3 hr4 hz hz2 hz3 hz4
  by_cases k1 : 20 < a.length
  · have d1 : decide ((20 : Int) < (a.length : Int)) = true := by simp; omega
    go_enter Try.func13, Try.ntmps13
    go_wp2_with (go_at_call 16; refine (known_any _).mono ?_; rintro _ W1 ⟨rfl, hb1⟩)
    go_ret
    exact ⟨rfl, bl3 (Below.refl _ _) hb1⟩
  · have d1 : decide ((20 : Int) < (a.length : Int)) = false := by simp; omega
    by_cases k2 : 20 < b.length
    · have d2 : decide ((20 : Int) < (b.length : Int)) = true := by simp; omega
      go_enter Try.func13, Try.ntmps13
      go_wp2_with (go_at_call 16; refine (known_any _).mono ?_; rintro _ W1 ⟨rfl, hb1⟩)
      go_ret
      exact ⟨rfl, bl3 (Below.refl _ _) hb1⟩
    · have d2 : decide ((20 : Int) < (b.length : Int)) = false := by simp; omega
      by_cases k3 : 20 < l3.length
      · have d3 : decide ((20 : Int) < (l3.length : Int)) = true := by simp; omega
        go_enter Try.func13, Try.ntmps13
        go_wp2_with (go_at_call 16; refine (known_any _).mono ?_; rintro _ W1 ⟨rfl, hb1⟩)
        go_ret
        exact ⟨rfl, bl3 (Below.refl _ _) hb1⟩
      · have d3 : decide ((20 : Int) < (l3.length : Int)) = false := by simp; omega
        by_cases k4 : 20 < tl.length
        · have d4 : decide ((20 : Int) < (tl.length : Int)) = true := by simp; omega
          go_enter Try.func13, Try.ntmps13
          go_wp2_with (go_at_call 16; refine (known_any _).mono ?_; rintro _ W1 ⟨rfl, hb1⟩)
          go_ret
          exact ⟨rfl, bl3 (Below.refl _ _) hb1⟩
        · have d4 : decide ((20 : Int) < (tl.length : Int)) = false := by simp; omega
          have hla : a.length ≤ 20 := by omega
          have hlb : b.length ≤ 20 := by omega
          have hlc : l3.length ≤ 20 := by omega
          have hlt : tl.length ≤ 20 := by omega
          clear k1 k2 k3 k4
          have hAN := apart_not (a := a) (b := b)
          have hAC := apart_comm (a := a) (b := b)
          obtain ⟨⟨dn, dd, de⟩, hd⟩ : ∃ x, apartR a b = x := ⟨_, rfl⟩
          obtain ⟨⟨fn, fd, fe⟩, hf⟩ : ∃ x, apartR b a = x := ⟨_, rfl⟩
          have HD := Lib.hid hd; have HF := Lib.hid hf
          rw [hd, hf] at hAN hAC
          simp only at hAN hAC
          have HOA := Lib.hid (fun W (h : Below w.heap.size w W) => own_any A c a W (by omega) HZ.out ((HR.out.below h).more h.size))
          have HOB := Lib.hid (fun W (h : Below w.heap.size w W) => own_any B c2 b W (by omega) HZ2.out ((HR2.out.below h).more h.size))
          have HO3 := Lib.hid (fun W (h : Below w.heap.size w W) => own_any A3 c3 l3 W (by omega) HZ3.out ((HR3.out.below h).more h.size))
          have HO4 := Lib.hid (fun W (h : Below w.heap.size w W) => own_any A4 c4 tl W (by omega) HZ4.out ((HR4.out.below h).more h.size))
          have HAB : Hid (∀ W X Y x y, Sl intCell 1 W W.heap.size X a → Sl intCell 1 W W.heap.size Y b → Calls Try.prog 52 #[.slice X a.length x, .slice Y b.length y] W (RetC (dn, dd, de) W)) := (fun W X Y x y h1 h2 => by
            have h := apart_any X Y x y a b W (by omega) (by omega) h1 h2; rw [hd] at h; exact h : ∀ W X Y x y, _)
          have HBA : Hid (∀ W X Y x y, Sl intCell 1 W W.heap.size X b → Sl intCell 1 W W.heap.size Y a → Calls Try.prog 52 #[.slice X b.length x, .slice Y a.length y] W (RetC (fn, fd, fe) W)) := (fun W X Y x y h1 h2 => by
            have h := apart_any X Y x y b a W (by omega) (by omega) h1 h2; rw [hf] at h; exact h : ∀ W X Y x y, _)
          have HSB := Lib.hid (fun W (h : Below w.heap.size w W) => lsame_any A B c c2 a b W (by omega) (by omega) HZ.out HZ2.out ((HR.out.below h).more h.size) ((HR2.out.below h).more h.size))
          by_cases he : de = 0
          · subst he
            have hfd := hAC rfl
            injection hfd with e1 e2
            injection e2 with e2 e3
            subst e1; subst e2; subst e3
            have hsm : (fn == 0) = sameB a b := by
              have h1 := apart_zero (a := a) (b := b) (by rw [hd])
              obtain ⟨oa, ob, _, _⟩ := apart_ok (a := a) (b := b) (by rw [hd])
              rw [hd] at h1
              have h2 : sameB a b = (lowL a == lowL b) := by
                have : sameR a b = (lowL a == lowL b, 0) := by
                  unfold sameR
                  rw [if_neg (fun hh => hh (by rw [if_neg (fun hh => hh (errW_zero.2 oa)), errW_zero.2 ob]))]
                unfold sameB; rw [this]; rfl
              rw [h2, ← h1]; rfl
            obtain ⟨sb, hsb⟩ : ∃ sb, sb = sameB a b := ⟨_, rfl⟩
            rw [← hsb] at hsm HSB
            have HSM := Lib.hid hsm
            clear hAN hAC hd hf hsm hsb HF
            go_enter Try.func13, Try.ntmps13
            go_upto_region 4 with (first | (go_at_call 18; have _ := hw1; (with_reducible refine (HOB.out _ hw1).mono ?_); rintro _ W2 ⟨E2, e2, rfl, hs2, -, hb2⟩; have hw2 := bl2 hw1 hb2) | (go_at_call 18; (with_reducible refine (HOA.out _ (bla (Below.refl _ _))).mono ?_); rintro _ W1 ⟨E1, e1, rfl, hs1, -, hb1⟩; have hw1 := bl3 (Below.refl _ _) hb1; have gx : Blk W1 w.heap.size #[.slice A3 l3.length c3, .int .u32 M, .slice A4 tl.length c4] 66 := (Blk.at_ rfl).below hb1 (by first | omega | (simp; omega) | (simp; done))) | (go_at_call 52; (with_reducible refine (HAB.out _ _ _ _ _ ((hs1.below hb2).more hb2.size) hs2).mono ?_); rintro _ W3 ⟨rfl, hb3⟩; have hw3 := bl2 hw2 hb3; have gx := (gx.below hb2 gx.lt).below hb3 (gx.below hb2 gx.lt).lt))
            obtain ⟨B7, hB7⟩ : ∃ B, B = W3.heap.size := ⟨_, rfl⟩
            have gd : Blk (W3.alloc (.cells #[.int .i64 fn, .int .i64 fd] 51)) B7 #[.int .i64 fn, .int .i64 fd] 51 := Blk.at_ hB7
            refine gen_w (fun W => Below w.heap.size w W ∧ Blk W w.heap.size #[.slice A3 l3.length c3, .int .u32 M, .slice A4 tl.length c4] 66 ∧ Blk W B7 #[.int .i64 fn, .int .i64 fd] 51) ⟨bla hw3, gx.alloc _, gd⟩ ?_
            rw [← hB7]
            clear gx gd hw1 hw2 hw3 hb1 hb2 hb3 hs1 hs2 hB7
            rintro V1 ⟨hw, gx, gd⟩
            go_upto_region 5 with (first | (go_at_call 18; have _ := hw1; (with_reducible refine (HOA.out _ hw1).mono ?_); rintro _ W2 ⟨E2, e2, rfl, hs2, -, hb2⟩; have hw2 := bl2 hw1 hb2) | (go_at_call 18; (with_reducible refine (HOB.out _ hw).mono ?_); rintro _ W1 ⟨E1, e1, rfl, hs1, -, hb1⟩; have hw1 := bl2 hw hb1) | (go_at_call 52; (with_reducible refine (HBA.out _ _ _ _ _ ((hs1.below hb2).more hb2.size) hs2).mono ?_); rintro _ W3 ⟨rfl, hb3⟩; have hw3 := bl2 hw2 hb3; have hx3 := bl2 (bl2 hb1 hb2) hb3; have gx := gx.below hx3 gx.lt; have gd := gd.below hx3 gd.lt))
            obtain ⟨B9, hB9⟩ : ∃ B, B = W3.heap.size := ⟨_, rfl⟩
            have gf : Blk (W3.alloc (.cells #[.int .i64 fn, .int .i64 fd] 51)) B9 #[.int .i64 fn, .int .i64 fd] 51 := Blk.at_ hB9
            refine gen_w (fun W => Below w.heap.size w W ∧ Blk W w.heap.size #[.slice A3 l3.length c3, .int .u32 M, .slice A4 tl.length c4] 66 ∧ Blk W B7 #[.int .i64 fn, .int .i64 fd] 51 ∧ Blk W B9 #[.int .i64 fn, .int .i64 fd] 51) ⟨bla hw3, gx.alloc _, gd.alloc _, gf⟩ ?_
            rw [← hB9]
            clear gx gd gf hw1 hw2 hw3 hx3 hb1 hb2 hb3 hs1 hs2 hB9 hw
            rintro V2 ⟨hw, gx, gd, gf⟩
            have HS2 := Lib.hid (fun W (h : Below V2.heap.size V2 W) => HSB.out W (bl2 hw h))
            have c0 := gd.cell 0; have c1 := gd.cell 1; have c2' := gf.cell 0; have c3' := gf.cell 1
            have l7 := gd.lt; have l9 := gf.lt
            simp at c0 c1 c2' c3'
            have hsm := HSM.out
            go_upto_region 7 with fail
            (refine wp_region_ext (by kernel_rfl) (by kernel_rfl) ?_; (repeat (go_big_quiet_step((go_at_call 30; with_reducible exact Calls.ext_of (HS2.out _ (Grow.h _)))))); with_reducible refine wpQuiet_nil ?_; intro w9 hw9; have hb9 := ext_below hw9; clear hw9)
            have hw := bl2 hw hb9
            have gx := gx.below hb9 gx.lt
            have gd := gd.below hb9 gd.lt
            clear c0 c1 c2' c3' l7 l9 hsm HS2 gf
            clear hb9
            go_wp2
            refine gen_w (fun W => W.ownsRow w9.heap.size 3 1 (.slice (some ⟨w9.heap.size, 0, none⟩) 0 0) 0 [] ∧ Below w9.heap.size w9 W) ⟨by simpa using World.ownsRow_made (e := 3) (size := 1) w9 #[] 0 (base := w9.heap.size) (Nat.le_refl _) (by simp) (by simp), (Below.refl _ _).alloc (Nat.le_refl _) _⟩ ?_
            rintro W0 ⟨how, hbW⟩
            have HOW := Lib.hid how
            clear how
            go_loopw [11, 12] (fun v i wq => ∃ j : Nat, j ≤ a.length ∧ i = .int .i64 j ∧ Hid (wq.ownsRow w9.heap.size 3 1 v (setP M j).length (flat intCell (setP M j))) ∧ Hid (Below w9.heap.size w9 wq)) (fun _ i _ => a.length - (intOf i).toNat)
            case atStart => exact ⟨0, by omega, rfl, HOW, hbW⟩
            case round =>
              clear HOW hbW
              obtain ⟨j, hj, rfl, hown, HBq⟩ := hrel
              by_cases hjl : j < a.length
              · have hbq := HBq.out
                have hsz := hbq.size
                have gxq := gx.below hbq gx.lt
                have cm := gxq.cell 1
                simp at cm
                have hj0 : (0 : Int) ≤ (j : Int) := by omega
                have hj1 : (j : Int) < 32 := by omega
                have hbt : (bits BinOp.and IntKind.u32 ((M : Int) / 2 ^ j) 1 == 1) = decide ((M : Int) / 2 ^ j % 2 = 1) := by
                  rw [u32bit M j (by omega)]
                  have e1 : (M : Int) / 2 ^ j = ((M / 2 ^ j : Nat) : Int) := by simp
                  rw [e1, Bool.eq_iff_iff, beq_iff_eq, decide_eq_true_eq]; omega
                clear gxq
                by_cases hs : (M : Int) / 2 ^ j % 2 = 1
                · have HEQ : Hid (setP M (j + 1) = setP M j ++ [(j : Int)]) := (by rw [setP_succ, if_pos hs] : setP (M : Int) (j + 1) = _)
                  have hol := setP_len M j
                  rw [decide_eq_true hs] at hbt
                  clear hs
                  go_wp2_with (at_builtin; refine wpList_append_own _ rfl _ _ 22 rfl w9.heap.size 3 i0 (.int .i64 0) 1 8 uInts hi iz0 iz1 iz2 rfl (by decide) _ _ _ rfl (hown.out.alloc _) ⟨wr.heap.size, 0, none⟩ 1 1 [.int .i64 (j : Int)] rfl rfl (cell_one_new _ _ _) (by simp [Value.oneCell']) (by unfold maxLen; omega) (by omega) (by simp; omega) ?_; intro v' w3 hown3 hgrow _; refine Hid.out ?_)
                  have hb3 : Below w9.heap.size w9 w3 := (hbq.alloc hsz _).grown hgrow (by simp; omega) (fun g hg => (hown.out.lt g hg).1)
                  have HO3 : Hid (w3.ownsRow w9.heap.size 3 1 v' (setP M (j + 1)).length (flat intCell (setP M (j + 1)))) := (by
                    rw [HEQ.out, List.length_append, flat_int, List.map_append, ← flat_int]; exact hown3 : w3.ownsRow w9.heap.size 3 1 v' (setP M (j + 1)).length (flat intCell (setP M (j + 1))))
                  clear hown3 hgrow
                  refine Lib.hid ?_
                  go_wp2
                  go_roundw
                  case rel => exact ⟨j + 1, by omega, by go_num, HO3, hb3⟩
                  case measure => simp [intOf]; omega
                · have HEQ : Hid (setP M (j + 1) = setP M j) := (by rw [setP_succ, if_neg hs, List.append_nil] : setP (M : Int) (j + 1) = _)
                  rw [decide_eq_false hs] at hbt
                  clear hs
                  go_wp2
                  go_roundw
                  case rel => exact ⟨j + 1, by omega, by go_num, (by rw [HEQ.out]; exact hown), HBq⟩
                  case measure => simp [intOf]; omega
              · obtain rfl : j = a.length := by omega
                obtain ⟨AO, kO, hvO, hsO, hzO⟩ := sl_of_own hown.out
                subst hvO
                have hwj := bl2 hw HBq.out
                have gx := gx.below HBq.out gx.lt
                have gd := gd.below HBq.out gd.lt
                have hOl := setP_len M a.length
                have HSO := Lib.hid hsO
                clear hsO hown HBq
                obtain ⟨oa, ob, hlab, _⟩ := apart_ok (a := a) (b := b) (by rw [HD.out])
                obtain ⟨E1', O1', C1', _, _⟩ := of_val oa (setP_among M a.length)
                obtain ⟨E2', O2', C2', _, _⟩ := of_val ob (o := setP M a.length) (by rw [← hlab]; exact setP_among M a.length)
                obtain ⟨O, hO⟩ : ∃ O, O = setP (M : Int) a.length := ⟨_, rfl⟩
                have HOO := Lib.hid hO
                rw [← hO] at E1' E2' O1' O2' hOl HSO
                obtain ⟨P1, hP1⟩ : ∃ G, G = ratN (selS a O) (sumL a) := ⟨_, rfl⟩
                obtain ⟨P2, hP2⟩ : ∃ G, G = ratD (selS a O) (sumL a) := ⟨_, rfl⟩
                obtain ⟨Q1, hQ1⟩ : ∃ G, G = ratN (selS b O) (sumL b) := ⟨_, rfl⟩
                obtain ⟨Q2, hQ2⟩ : ∃ G, G = ratD (selS b O) (sumL b) := ⟨_, rfl⟩
                rw [← hP1, ← hP2] at E1' O1'
                rw [← hQ1, ← hQ2] at E2' O2'
                have HPA : Hid (∀ W X x, Sl intCell 1 W W.heap.size X a → Sl intCell 1 W W.heap.size AO O → Calls Try.prog 34 #[.slice X a.length x, .slice AO O.length kO] W (RetC (P1, P2, 0) W)) := (fun W X x h1 h2 => by
                  have h := of_any X AO x kO a O W (by omega) (by omega) h1 h2; rw [E1'] at h; exact h : ∀ W X x, _)
                have HQB : Hid (∀ W X x, Sl intCell 1 W W.heap.size X b → Sl intCell 1 W W.heap.size AO O → Calls Try.prog 34 #[.slice X b.length x, .slice AO O.length kO] W (RetC (Q1, Q2, 0) W)) := (fun W X x h1 h2 => by
                  have h := of_any X AO x kO b O W (by omega) (by omega) h1 h2; rw [E2'] at h; exact h : ∀ W X x, _)
                have HE1 := Lib.hid E1'; have HE2 := Lib.hid E2'
                have HO1 := Lib.hid O1'; have HO2 := Lib.hid O2'
                rw [← hO]
                clear E1' E2' O1' O2' C1' C2' hP1 hP2 hQ1 hQ2 oa ob hlab hO hj hjl hw
                go_upto_region 16 with (first | (go_at_call 18; (with_reducible refine (HOA.out _ hwj).mono ?_); rintro _ X1 ⟨F1, f1, rfl, hs1, -, hb1⟩) | (go_at_call 34; (with_reducible refine (HPA.out _ _ _ hs1 ((HSO.out.below hb1).more hb1.size)).mono ?_); rintro _ X2 ⟨rfl, hb2⟩; have hx2 := bl2 hb1 hb2; have hw2 := bl2 hwj hx2; have gx := gx.below hx2 gx.lt; have gd := gd.below hx2 gd.lt; have HSO := Lib.hid ((HSO.out.below hx2).more hx2.size)))
                obtain ⟨B13, hB13⟩ : ∃ B, B = X2.heap.size := ⟨_, rfl⟩
                have gp : Blk (X2.alloc (.cells #[.int .i64 P1, .int .i64 P2] 51)) B13 #[.int .i64 P1, .int .i64 P2] 51 := Blk.at_ hB13
                refine gen_w (fun W => Below w.heap.size w W ∧ Blk W w.heap.size #[.slice A3 l3.length c3, .int .u32 M, .slice A4 tl.length c4] 66 ∧ Blk W B7 #[.int .i64 fn, .int .i64 fd] 51 ∧ Blk W B13 #[.int .i64 P1, .int .i64 P2] 51 ∧ Hid (Sl intCell 1 W W.heap.size AO O)) ⟨bla hw2, gx.alloc _, gd.alloc _, gp, ((HSO.out.below (bla (Below.refl _ _))).more (by simp))⟩ ?_
                rw [← hB13]
                clear gx gd gp hw2 hx2 hb1 hb2 hs1 hB13 hwj HSO
                rintro V3 ⟨hw, gx, gd, gp, HSO⟩
                go_upto_region 19 with (first | (go_at_call 18; (with_reducible refine (HOB.out _ hw).mono ?_); rintro _ X1 ⟨F1, f1, rfl, hs1, -, hb1⟩) | (go_at_call 34; (with_reducible refine (HQB.out _ _ _ hs1 ((HSO.out.below hb1).more hb1.size)).mono ?_); rintro _ X2 ⟨rfl, hb2⟩; have hx2 := bl2 hb1 hb2; have hw2 := bl2 hw hx2; have gx := gx.below hx2 gx.lt; have gd := gd.below hx2 gd.lt; have gp := gp.below hx2 gp.lt))
                obtain ⟨B14, hB14⟩ : ∃ B, B = X2.heap.size := ⟨_, rfl⟩
                have gq : Blk (X2.alloc (.cells #[.int .i64 Q1, .int .i64 Q2] 51)) B14 #[.int .i64 Q1, .int .i64 Q2] 51 := Blk.at_ hB14
                refine gen_w (fun W => Below w.heap.size w W ∧ Blk W w.heap.size #[.slice A3 l3.length c3, .int .u32 M, .slice A4 tl.length c4] 66 ∧ Blk W B7 #[.int .i64 fn, .int .i64 fd] 51 ∧ Blk W B13 #[.int .i64 P1, .int .i64 P2] 51 ∧ Blk W B14 #[.int .i64 Q1, .int .i64 Q2] 51) ⟨bla hw2, gx.alloc _, gd.alloc _, gp.alloc _, gq⟩ ?_
                rw [← hB14]
                clear gx gd gp gq hw2 hx2 hb1 hb2 hs1 hB14 hw HSO HPA HQB
                rintro V4 ⟨hw, gx, gd, gp, gq⟩
                obtain ⟨cn, hcn⟩ : ∃ z, z = cmpI (P1 * Q2) (Q1 * P2) := ⟨_, rfl⟩
                have HCM : Hid (∀ W, Calls Try.prog 41 #[.agg #[.int .i64 P1, .int .i64 P2], .agg #[.int .i64 Q1, .int .i64 Q2]] W (RetI2 (cn, 0) W)) := (fun W => by
                  have h := compare_any ⟨P1, P2⟩ ⟨Q1, Q2⟩ W; rw [cmp_ok HO1.out HO2.out, ← hcn] at h; exact h : ∀ W, _)
                clear hcn
                have c0 := gp.cell 0; have c1 := gp.cell 1; have c2' := gq.cell 0; have c3' := gq.cell 1
                simp at c0 c1 c2' c3'
                go_upto_if 145 with (go_at_call 41; (with_reducible refine (HCM.out _).mono ?_); rintro _ X1 ⟨rfl, hb1⟩; have hw1 := bl2 hw hb1; have gx := gx.below hb1 gx.lt; have gd := gd.below hb1 gd.lt; have gp := gp.below hb1 gp.lt; have gq := gq.below hb1 gq.lt)
                clear c0 c1 c2' c3'
                have c0 := gp.cell 0; have c1 := gp.cell 1; have c2' := gq.cell 0; have c3' := gq.cell 1; have e0 := gd.cell 0; have e1' := gd.cell 1
                simp at c0 c1 c2' c3' e0 e1'
                go_cut [] (fun wx => Below w.heap.size w wx ∧ Blk wx w.heap.size #[.slice A3 l3.length c3, .int .u32 M, .slice A4 tl.length c4] 66 ∧ Blk wx B7 #[.int .i64 fn, .int .i64 fd] 51)
                case first =>
                  as_aux_lemma =>
                    --D<3
                    by_cases hgt : 0 < cn
                    · have dg : decide (0 < cn) = true := by simpa using hgt
                      rw [dg]
                      obtain ⟨⟨sn, sd, se⟩, hei⟩ : ∃ x, eitherR ⟨Q1, Q2⟩ ⟨fn, fd⟩ = x := ⟨_, rfl⟩
                      have HEI : Hid (∀ W, Calls Try.prog 44 #[.agg #[.int .i64 Q1, .int .i64 Q2], .agg #[.int .i64 fn, .int .i64 fd]] W (RetC (sn, sd, se) W)) := (fun W => by
                        have h := either_any ⟨Q1, Q2⟩ ⟨fn, fd⟩ W; rw [hei] at h; exact h : ∀ W, _)
                      by_cases hse : se = 0
                      · subst hse
                        have hfs := far_sets (a := a) (b := b) (by rw [HD.out]) (M : Int)
                        rw [← HOO.out, HE1.out, HE2.out, HD.out] at hfs
                        simp only at hfs
                        rw [hei] at hfs
                        simp only at hfs
                        obtain ⟨os, hle⟩ := hfs trivial
                        have hck := cmp_le hle
                        obtain ⟨ck, hck'⟩ : ∃ z, z = cmpI (P1 * sd) (sn * P2) := ⟨_, rfl⟩
                        have HC2 : Hid (∀ W, Calls Try.prog 41 #[.agg #[.int .i64 P1, .int .i64 P2], .agg #[.int .i64 sn, .int .i64 sd]] W (RetI2 (ck, 0) W)) := (fun W => by
                          have h := compare_any ⟨P1, P2⟩ ⟨sn, sd⟩ W; rw [cmp_ok HO1.out os, ← hck'] at h; exact h : ∀ W, _)
                        rw [← hck'] at hck
                        have dk : decide (0 < ck) = false := by simp; omega
                        clear hck' hle os hfs hei hgt hck
                        go_wp2_with (first | (go_at_call 44; (with_reducible refine (HEI.out _).mono ?_); rintro _ X2 ⟨rfl, hb2⟩; have hw2 := bl2 hw1 hb2; have gx := gx.below hb2 gx.lt; have gd := gd.below hb2 gd.lt; have gp := gp.below hb2 gp.lt; have lp := gp.lt; have c0 := gp.cell 0; have c1 := gp.cell 1; simp at c0 c1) | (go_at_call 41; (with_reducible refine (HC2.out _).mono ?_); rintro _ X3 ⟨rfl, hb3⟩; have hw3 := bl3 hw2 hb3; have gx := (gx.alloc _).below hb3 (gx.alloc _).lt; have gd := (gd.alloc _).below hb3 (gd.alloc _).lt))
                        go_meet
                        exact ⟨hw3, gx, gd⟩
                      · have dse : (se == 0) = false := by simpa using hse
                        clear hei hgt hse
                        go_wp2_with (go_at_call 44; (with_reducible refine (HEI.out _).mono ?_); rintro _ X2 ⟨rfl, hb2⟩; have hw2 := bl2 hw1 hb2; have gx := gx.below hb2 gx.lt; have gd := gd.below hb2 gd.lt)
                        go_meet
                        exact ⟨bla hw2, gx.alloc _, gd.alloc _⟩
                    · have dg : decide (0 < cn) = false := by simpa using hgt
                      rw [dg]
                      clear hgt
                      go_wp2
                      go_meet
                      exact ⟨hw1, gx, gd⟩
                    --D>
                case rest =>
                  obtain ⟨hw, gx, gd⟩ := hcut
                  rename World => V5
                  clear c0 c1 c2' c3' e0 e1' hb1 hw1 gp gq HCM HOO HE1 HE2 HO1 HO2
                  go_upto_region 28 with fail
                  have c0 := gx.cell 2
                  simp at c0
                  obtain ⟨oa, ob, hlab, _⟩ := apart_ok (a := a) (b := b) (by rw [HD.out])
                  have hmc := map3_cases (tl := tl) oa ob hlab
                  obtain ⟨⟨ma, me⟩, hme⟩ : ∃ x, mapR a tl 3 = x := ⟨_, rfl⟩
                  rw [hme] at hmc
                  simp only at hmc
                  have HMA : Hid (∀ W X Y x y, Sl intCell 1 W W.heap.size X a → Sl intCell 1 W W.heap.size Y tl → Calls Try.prog 25 #[.slice X a.length x, .slice Y tl.length y, .int .i64 3] W (RetSlE ma me W)) := (fun W X Y x y h1 h2 => by
                    have h := map_any X Y x y a tl 3 W (by omega) (by omega) h1 h2; rw [hme] at h; exact h : ∀ W X Y x y, _)
                  have HMC := Lib.hid hmc; have HLAB := Lib.hid hlab; have HOKA := Lib.hid oa; have HOKB := Lib.hid ob
                  clear hme hmc hlab oa ob
                  have gxb0 := gx; have gxb := gx.drew
                  go_region_held (fun W' => W'.cell? ⟨w.heap.size, 2, none⟩ = some (.slice A4 tl.length c4)) (first | exact c0 | go_keep)
                    (first | (go_at_call 18; have _ := hb1; (with_reducible refine (HO4.out _ (bl2 hw.drew hb1)).mono ?_); rintro _ X2 ⟨F2, f2, rfl, hs2, -, hb2⟩; have gx2 := gx1.below hb2 gx1.lt; have c0 := gx2.cell 2; simp at c0) | (go_at_call 18; (with_reducible refine (HOA.out _ hw.drew).mono ?_); rintro _ X1 ⟨F1, f1, rfl, hs1, -, hb1⟩; have gx1 := gxb.below hb1 gxb.lt; have c0 := gx1.cell 2; simp at c0) | (go_at_call 25; (with_reducible refine (HMA.out _ _ _ _ _ ((hs1.below hb2).more hb2.size) hs2).mono ?_); rintro _ X3 ⟨F3, f3, rfl, hs3, -, hb3⟩; have gx3 := gx2.below hb3 gx2.lt; have c0 := gx3.cell 2; simp at c0))
                  all_goals (
                    have hx3 : Below V5.heap.size V5 X3 := bl2 (bl2 (Below.trans (Below.refl V5.heap.size V5).drew hb1) hb2) hb3
                    have hw3 := bl2 hw hx3
                    have gx := gxb0.below hx3 gxb0.lt
                    have gd := gd.below hx3 gd.lt
                    have HS3 := Lib.hid hs3
                    clear c0 gxb gx1 gx2 gx3 hs1 hs2 hs3 hb1 hb2 hb3 hx3 gxb0
                    clear hw
                    go_upto_if 176 with fail
                    go_cut [] (fun wx => Below w.heap.size w wx ∧ Blk wx w.heap.size #[.slice A3 l3.length c3, .int .u32 M, .slice A4 tl.length c4] 66 ∧ Blk wx B7 #[.int .i64 fn, .int .i64 fd] 51)
                    case first =>
                      as_aux_lemma =>
                        --D<2
                        by_cases hme : me = 0
                        · subst hme
                          obtain ⟨k1, k2, k3, k4⟩ := HMC.out rfl
                          injection k1 with k1 _
                          have hfm := @far_maps a b tl (by rw [HD.out]) k3 k4
                          rw [← k1] at hfm
                          obtain ⟨⟨mb, mbe⟩, hmb⟩ : ∃ x, mapR b tl 3 = x := ⟨_, rfl⟩
                          have HMB : Hid (∀ W X Y x y, Sl intCell 1 W W.heap.size X b → Sl intCell 1 W W.heap.size Y tl → Calls Try.prog 25 #[.slice X b.length x, .slice Y tl.length y, .int .i64 3] W (RetSlE mb mbe W)) := (fun W X Y x y h1 h2 => by
                            have h := map_any X Y x y b tl 3 W (by omega) (by omega) h1 h2; rw [hmb] at h; exact h : ∀ W X Y x y, _)
                          rw [hmb] at k2
                          injection k2 with k2 k5
                          subst k5
                          rw [← k2] at hfm
                          have lma : ma.length ≤ 1000000000 := by rw [k1, mapTo_len]; omega
                          have lmb : mb.length ≤ 1000000000 := by rw [k2, mapTo_len]; omega
                          obtain ⟨⟨hn, hh, he⟩, hap⟩ : ∃ x, apartR ma mb = x := ⟨_, rfl⟩
                          rw [hap, HD.out] at hfm
                          simp only at hfm
                          have HAM : Hid (∀ W X Y x y, Sl intCell 1 W W.heap.size X ma → Sl intCell 1 W W.heap.size Y mb → Calls Try.prog 52 #[.slice X ma.length x, .slice Y mb.length y] W (RetC (hn, hh, he) W)) := (fun W X Y x y h1 h2 => by
                            have h := apart_any X Y x y ma mb W lma lmb h1 h2; rw [hap] at h; exact h : ∀ W X Y x y, _)
                          have HFM := Lib.hid hfm
                          clear k1 k2 k3 k4 hmb hap hfm
                          go_upto_region 30 with fail
                          have c0 := gx.cell 2
                          simp at c0
                          have gxb0 := gx; have gdb0 := gd; have gxb := gx.drew
                          go_region_held (fun W' => W'.cell? ⟨w.heap.size, 2, none⟩ = some (.slice A4 tl.length c4)) (first | exact c0 | go_keep)
                            (first | (go_at_call 18; have _ := hb1; (with_reducible refine (HO4.out _ (bl2 hw3.drew hb1)).mono ?_); rintro _ Y2 ⟨G2, g2, rfl, hs2, -, hb2⟩; have gx2 := gx1.below hb2 gx1.lt; have c0 := gx2.cell 2; simp at c0) | (go_at_call 18; (with_reducible refine (HOB.out _ hw3.drew).mono ?_); rintro _ Y1 ⟨G1, g1, rfl, hs1, -, hb1⟩; have gx1 := gxb.below hb1 gxb.lt; have c0 := gx1.cell 2; simp at c0) | (go_at_call 25; (with_reducible refine (HMB.out _ _ _ _ _ ((hs1.below hb2).more hb2.size) hs2).mono ?_); rintro _ Y3 ⟨G3, g3, rfl, hs3, -, hb3⟩; have gx3 := gx2.below hb3 gx2.lt; have c0 := gx3.cell 2; simp at c0))
                          all_goals (
                            have hx3 : Below X3.heap.size X3 Y3 := bl2 (bl2 (Below.trans (Below.refl X3.heap.size X3).drew hb1) hb2) hb3
                            have hw4 := bl2 hw3 hx3
                            have gx := gxb0.below hx3 gxb0.lt
                            have gd := gdb0.below hx3 gdb0.lt
                            have HA3 := Lib.hid ((HS3.out.below hx3).more hx3.size)
                            have HB3 := Lib.hid hs3
                            clear c0 gxb gx1 gx2 gx3 hs1 hs2 hs3 hb1 hb2 hb3 hx3 gxb0 gdb0
                            clear hw3
                            --D<4
                            by_cases hhe : he = 0
                            · subst hhe
                              obtain ⟨om, hle⟩ := HFM.out rfl
                              have hck := cmp_le hle
                              have od := (apart_has (a := a) (b := b) (by rw [HD.out])).1
                              rw [HD.out] at od
                              obtain ⟨ck, hck'⟩ : ∃ z, z = cmpI (hn * fd) (fn * hh) := ⟨_, rfl⟩
                              have HC2 : Hid (∀ W, Calls Try.prog 41 #[.agg #[.int .i64 hn, .int .i64 hh], .agg #[.int .i64 fn, .int .i64 fd]] W (RetI2 (ck, 0) W)) := (fun W => by
                                have h := compare_any ⟨hn, hh⟩ ⟨fn, fd⟩ W; rw [cmp_ok om od, ← hck'] at h; exact h : ∀ W, _)
                              rw [← hck'] at hck
                              have dk : decide (0 < ck) = false := by simp; omega
                              clear hck' hle om od hck
                              --T a
                              --D<5
                              go_wp2_with (first | (go_at_call 52; (with_reducible refine (HAM.out _ _ _ _ _ HA3.out HB3.out).mono ?_); rintro _ Y4 ⟨rfl, hb4⟩; have hw5 := bl2 hw4 hb4; have gx := gx.below hb4 gx.lt; have gd := gd.below hb4 gd.lt; have ld := gd.lt; have c0 := gd.cell 0; have c1 := gd.cell 1; simp at c0 c1) | (go_at_call 41; (with_reducible refine (HC2.out _).mono ?_); rintro _ Y5 ⟨rfl, hb5⟩; have hw6 := bl3 hw5 hb5; have gx := (gx.alloc _).below hb5 (gx.alloc _).lt; have gd := (gd.alloc _).below hb5 (gd.alloc _).lt))
                              --T b
                              go_meet
                              exact ⟨hw6, gx, gd⟩
                              --D>
                              --T c
                            · have dhe : (he == 0) = false := by simpa using hhe
                              clear hhe
                              go_wp2_with (go_at_call 52; (with_reducible refine (HAM.out _ _ _ _ _ HA3.out HB3.out).mono ?_); rintro _ Y4 ⟨rfl, hb4⟩; have hw5 := bl2 hw4 hb4; have gx := gx.below hb4 gx.lt; have gd := gd.below hb4 gd.lt)
                              go_meet
                              exact ⟨bla hw5, gx.alloc _, gd.alloc _⟩
                            --D>
                            )
                        · have dm : (me == 0) = false := by simpa using hme
                          rw [dm]
                          clear hme
                          go_wp2
                          go_meet
                          exact ⟨hw3, gx, gd⟩
                        --D>
                    case rest =>
                      obtain ⟨hw, gx, gd⟩ := hcut
                      rename World => V6
                      clear hw3 HS3 HMA HMC HLAB HAB HBA
                      obtain ⟨⟨un, ud, ue⟩, hu⟩ : ∃ x, apartR a l3 = x := ⟨_, rfl⟩
                      obtain ⟨⟨vn, vd, ve⟩, hv⟩ : ∃ x, apartR l3 b = x := ⟨_, rfl⟩
                      have HUU : Hid (∀ W X Y x y, Sl intCell 1 W W.heap.size X a → Sl intCell 1 W W.heap.size Y l3 → Calls Try.prog 52 #[.slice X a.length x, .slice Y l3.length y] W (RetC (un, ud, ue) W)) := (fun W X Y x y h1 h2 => by
                        have h := apart_any X Y x y a l3 W (by omega) (by omega) h1 h2; rw [hu] at h; exact h : ∀ W X Y x y, _)
                      have HVV : Hid (∀ W X Y x y, Sl intCell 1 W W.heap.size X l3 → Sl intCell 1 W W.heap.size Y b → Calls Try.prog 52 #[.slice X l3.length x, .slice Y b.length y] W (RetC (vn, vd, ve) W)) := (fun W X Y x y h1 h2 => by
                        have h := apart_any X Y x y l3 b W (by omega) (by omega) h1 h2; rw [hv] at h; exact h : ∀ W X Y x y, _)
                      have HU := Lib.hid hu; have HV := Lib.hid hv
                      clear hu hv
                      go_upto_region 38 with fail
                      have c0 := gx.cell 0
                      have hz := gx.lt
                      simp at c0
                      have gxb := gx; have gdb := gd
                      have nz0 : V6.heap.size ≠ w.heap.size := by omega
                      go_cut [29, 8] (fun s29 s8 wx => ∃ u : Nat, s29 = .pointer (some ⟨u, 0, none⟩) ∧ s8 = .int .i64 ue ∧ Blk wx u #[.int .i64 un, .int .i64 ud] 51 ∧ Below V6.heap.size V6 wx)
                      case first =>
                        as_aux_lemma =>
                          --D<1
                          go_region_held (fun W' => W'.cell? ⟨w.heap.size, 0, none⟩ = some (.slice A3 l3.length c3)) (first | exact c0 | go_keep)
                            (first | (go_at_call 18; have _ := hb1; (with_reducible refine (HO3.out _ (by (repeat (first | exact Below.refl _ _ | assumption | (refine Below.alloc ?_ (by first | omega | (simp; omega) | (simp; done)) _) | (refine Below.setCell ?_ (by first | omega | (simp; omega) | (simp; done)) _) | (refine Below.drew ?_) | (refine belowN ?_ _) | (refine Below.trans ?_ (Below.mono ‹Below _ _ _› (by first | omega | (simp; omega) | (simp; done)))))))).mono ?_); rintro _ Y2 ⟨G2, g2, rfl, hs2, -, hb2⟩; have hy2 : Below Y1.heap.size Y1 Y2 := Below.trans (by (repeat (first | exact Below.refl _ _ | assumption | (refine Below.alloc ?_ (by first | omega | (simp; omega) | (simp; done)) _) | (refine Below.setCell ?_ (by first | omega | (simp; omega) | (simp; done)) _) | (refine Below.drew ?_) | (refine belowN ?_ _) | (refine Below.trans ?_ (Below.mono ‹Below _ _ _› (by first | omega | (simp; omega) | (simp; done))))))) (hb2.mono (by first | omega | (simp; omega) | (simp; done))); have hs1 := (hs1.below hy2).more hy2.size; have hx2 : Below V6.heap.size V6 Y2 := bl2 hx1 hy2; have gx := gxb.below hx2 gxb.lt; have hz := gx.lt; have c0 := gx.cell 0; simp at c0; have nz2 : Y2.heap.size ≠ w.heap.size := (by omega); (try (refine lay (Blk.below za hb2 ?_) ?_; (focus (first | omega | (simp; omega) | (simp; done))); intro za; have zal := za.lt; have za0 := za.cell 0; have za1 := za.cell 1; have za2 := za.free 0; have za3 := za.free 1; simp at za0 za1)); (try (refine lay (P := Blk Y2 Y1.heap.size #[.int .i64 0, .int .i64 0] 51) ?_ ?_; (focus (refine Blk.below ?_ hb2 ?_; (focus (first | exact Blk.new _ _ _ | exact Blk.drew (Blk.new _ _ _))); (focus (first | omega | (simp; omega) | (simp; done))))); intro zb; have zbl := zb.lt; have zb0 := zb.cell 0; have zb1 := zb.cell 1; have zb2 := zb.free 0; have zb3 := zb.free 1; simp at zb0 zb1))) |
                              (go_at_call 18; (with_reducible refine (HOA.out _ (by (repeat (first | exact Below.refl _ _ | assumption | (refine Below.alloc ?_ (by first | omega | (simp; omega) | (simp; done)) _) | (refine Below.setCell ?_ (by first | omega | (simp; omega) | (simp; done)) _) | (refine Below.drew ?_) | (refine belowN ?_ _) | (refine Below.trans ?_ (Below.mono ‹Below _ _ _› (by first | omega | (simp; omega) | (simp; done)))))))).mono ?_); rintro _ Y1 ⟨G1, g1, rfl, hs1, -, hb1⟩; have hx1 : Below V6.heap.size V6 Y1 := Below.trans (by (repeat (first | exact Below.refl _ _ | assumption | (refine Below.alloc ?_ (by first | omega | (simp; omega) | (simp; done)) _) | (refine Below.setCell ?_ (by first | omega | (simp; omega) | (simp; done)) _) | (refine Below.drew ?_) | (refine belowN ?_ _) | (refine Below.trans ?_ (Below.mono ‹Below _ _ _› (by first | omega | (simp; omega) | (simp; done))))))) (hb1.mono (by first | omega | (simp; omega) | (simp; done))); have gx := gxb.below hx1 gxb.lt; have hz := gx.lt; have c0 := gx.cell 0; simp at c0; have nz1 : Y1.heap.size ≠ w.heap.size := (by omega); (try (refine lay (P := Blk Y1 V6.heap.size #[.int .i64 0, .int .i64 0] 51) ?_ ?_; (focus (refine Blk.below ?_ hb1 ?_; (focus (first | exact Blk.new _ _ _ | exact Blk.drew (Blk.new _ _ _))); (focus (first | omega | (simp; omega) | (simp; done))))); intro za; have zal := za.lt; have za0 := za.cell 0; have za1 := za.cell 1; have za2 := za.free 0; have za3 := za.free 1; simp at za0 za1))) |
                              (go_at_call 52; (with_reducible refine (HUU.out _ _ _ _ _ ((hs1.below (by (repeat (first | exact Below.refl _ _ | assumption | (refine Below.alloc ?_ (by first | omega | (simp; omega) | (simp; done)) _) | (refine Below.setCell ?_ (by first | omega | (simp; omega) | (simp; done)) _) | (refine Below.drew ?_) | (refine belowN ?_ _) | (refine Below.trans ?_ (Below.mono ‹Below _ _ _› (by first | omega | (simp; omega) | (simp; done)))))))).more (by first | omega | (simp; omega) | (simp; done))) ((hs2.below (by (repeat (first | exact Below.refl _ _ | assumption | (refine Below.alloc ?_ (by first | omega | (simp; omega) | (simp; done)) _) | (refine Below.setCell ?_ (by first | omega | (simp; omega) | (simp; done)) _) | (refine Below.drew ?_) | (refine belowN ?_ _) | (refine Below.trans ?_ (Below.mono ‹Below _ _ _› (by first | omega | (simp; omega) | (simp; done)))))))).more (by first | omega | (simp; omega) | (simp; done)))).mono ?_); rintro _ Y3 ⟨rfl, hb3⟩; have hx3 : Below V6.heap.size V6 Y3 := bl2 hx2 (Below.trans (by (repeat (first | exact Below.refl _ _ | assumption | (refine Below.alloc ?_ (by first | omega | (simp; omega) | (simp; done)) _) | (refine Below.setCell ?_ (by first | omega | (simp; omega) | (simp; done)) _) | (refine Below.drew ?_) | (refine belowN ?_ _) | (refine Below.trans ?_ (Below.mono ‹Below _ _ _› (by first | omega | (simp; omega) | (simp; done))))))) (hb3.mono (by first | omega | (simp; omega) | (simp; done)))); have gx := gxb.below hx3 gxb.lt; have hz := gx.lt; have c0 := gx.cell 0; simp at c0; (try (refine lay (Blk.below za hb3 ?_) ?_; (focus (first | omega | (simp; omega) | (simp; done))); intro za; have zal := za.lt; have za0 := za.cell 0; have za1 := za.cell 1; have za2 := za.free 0; have za3 := za.free 1; simp at za0 za1)); (try (refine lay (Blk.below zb hb3 ?_) ?_; (focus (first | omega | (simp; omega) | (simp; done))); intro zb; have zbl := zb.lt; have zb0 := zb.cell 0; have zb1 := zb.cell 1; have zb2 := zb.free 0; have zb3 := zb.free 1; simp at zb0 zb1)); (try (refine lay (P := Blk Y3 Y2.heap.size #[.int .i64 0, .int .i64 0] 51) ?_ ?_; (focus (refine Blk.below ?_ hb3 ?_; (focus (first | exact Blk.new _ _ _ | exact Blk.drew (Blk.new _ _ _))); (focus (first | omega | (simp; omega) | (simp; done))))); intro zc; have zcl := zc.lt; have zc0 := zc.cell 0; have zc1 := zc.cell 1; have zc2 := zc.free 0; have zc3 := zc.free 1; simp at zc0 zc1))))
                          all_goals (
                            go_wp2_with fail
                            go_meet
                            have hsz1 := hx1.size; have hsz2 := hx2.size; have hsz3 := hx3.size
                            refine ⟨_, rfl, rfl, ?_, ?_⟩
                            · (first | (with_reducible exact Blk.new _ _ _) | (with_reducible exact Blk.at_ (by simp)) | (with_reducible exact Blk.set2 za _ _) | (with_reducible exact Blk.set2 zb _ _) | (with_reducible exact Blk.set2 zc _ _))
                            · (repeat (first | (with_reducible exact hx3) | (with_reducible refine Below.setCell (p := ⟨_, _, none⟩) ?_ (by first | omega | (simp; omega) | (simp; done)) _) | (with_reducible refine Below.alloc ?_ (by first | omega | (simp; omega) | (simp; done)) _))))
                          --D>
                      case rest =>
                        obtain ⟨u, rfl, rfl, gu, hcx⟩ := hcut
                        rename World => V7
                        have gx := gxb.below hcx gxb.lt
                        have gd := gdb.below hcx gdb.lt
                        have hw := bl2 hw hcx
                        clear gxb gdb hcx nz0 hz c0 HUU
                        have c0 := gx.cell 0
                        simp at c0
                        by_cases hok : ue = 0 ∧ ve = 0
                        · obtain ⟨rfl, rfl⟩ := hok
                          obtain ⟨⟨sn, sd, se⟩, hei⟩ : ∃ x, eitherR ⟨un, ud⟩ ⟨vn, vd⟩ = x := ⟨_, rfl⟩
                          have HEI : Hid (∀ W, Calls Try.prog 44 #[.agg #[.int .i64 un, .int .i64 ud], .agg #[.int .i64 vn, .int .i64 vd]] W (RetC (sn, sd, se) W)) := (fun W => by
                            have h := either_any ⟨un, ud⟩ ⟨vn, vd⟩ W; rw [hei] at h; exact h : ∀ W, _)
                          have HEE := Lib.hid hei
                          clear hei
                          go_upto_region 42 with (first | (go_at_call 18; have _ := hb1; (with_reducible refine (HOB.out _ (bl2 hw hb1)).mono ?_); rintro _ Y2 ⟨G2, g2, rfl, hs2, -, hb2⟩) | (go_at_call 18; (with_reducible refine (HO3.out _ hw).mono ?_); rintro _ Y1 ⟨G1, g1, rfl, hs1, -, hb1⟩) | (go_at_call 52; (with_reducible refine (HVV.out _ _ _ _ _ ((hs1.below hb2).more hb2.size) hs2).mono ?_); rintro _ Y3 ⟨rfl, hb3⟩; have hx3 := bl2 (bl2 hb1 hb2) hb3; have hw3 := bl2 hw hx3; have gu := gu.below hx3 gu.lt; have gd := gd.below hx3 gd.lt) | (go_at_call 16; refine (known_any _).mono ?_; rintro _ Z3 ⟨rfl, hb4⟩))
                          obtain ⟨B30, hB30⟩ : ∃ B, B = Y3.heap.size := ⟨_, rfl⟩
                          have gv : Blk (Y3.alloc (.cells #[.int .i64 vn, .int .i64 vd] 51)) B30 #[.int .i64 vn, .int .i64 vd] 51 := Blk.at_ hB30
                          refine gen_w (fun W => Below w.heap.size w W ∧ Blk W u #[.int .i64 un, .int .i64 ud] 51 ∧ Blk W B7 #[.int .i64 fn, .int .i64 fd] 51 ∧ Blk W B30 #[.int .i64 vn, .int .i64 vd] 51) ⟨bla hw3, gu.alloc _, gd.alloc _, gv⟩ ?_
                          rw [← hB30]
                          clear gu gd gv hx3 hw3 hs1 hs2 hb1 hb2 hb3 hB30 hw c0 gx
                          rintro V8 ⟨hw, gu, gd, gv⟩
                          have u0 := gu.cell 0; have u1 := gu.cell 1; have v0 := gv.cell 0; have v1 := gv.cell 1
                          simp at u0 u1 v0 v1
                          by_cases hse : se = 0
                          · subst hse
                            have hft := far_third (a := a) (b := b) (c := l3) (by rw [HD.out]) (by rw [HU.out]) (by rw [HV.out])
                            rw [HU.out, HV.out, HD.out] at hft
                            simp only at hft
                            rw [HEE.out] at hft
                            simp only at hft
                            obtain ⟨os, hle⟩ := hft trivial
                            have hck := cmp_le hle
                            have od := (apart_has (a := a) (b := b) (by rw [HD.out])).1
                            rw [HD.out] at od
                            obtain ⟨ck, hck'⟩ : ∃ z, z = cmpI (fn * sd) (sn * fd) := ⟨_, rfl⟩
                            have HC2 : Hid (∀ W, Calls Try.prog 41 #[.agg #[.int .i64 fn, .int .i64 fd], .agg #[.int .i64 sn, .int .i64 sd]] W (RetI2 (ck, 0) W)) := (fun W => by
                              have h := compare_any ⟨fn, fd⟩ ⟨sn, sd⟩ W; rw [cmp_ok od os, ← hck'] at h; exact h : ∀ W, _)
                            rw [← hck'] at hck
                            have dk : decide (ck ≤ 0) = true := by simpa using hck
                            clear hck' hle os od hft hck
                            go_wp2_with (first | (go_at_call 44; (with_reducible refine (HEI.out _).mono ?_); rintro _ Z1 ⟨rfl, hb1⟩; have hw1 := bl2 hw hb1; have gd := gd.below hb1 gd.lt; have ld := gd.lt; have c0 := gd.cell 0; have c1 := gd.cell 1; simp at c0 c1) | (go_at_call 41; (with_reducible refine (HC2.out _).mono ?_); rintro _ Z2 ⟨rfl, hb2⟩; have hw2 := bl3 hw1 hb2) | (go_at_call 16; refine (known_any _).mono ?_; rintro _ Z3 ⟨rfl, hb3⟩))
                            go_ret
                            exact ⟨rfl, bl2 hw2 hb3⟩
                          · have dse : (se != 0) = true := by simpa using hse
                            clear hse
                            go_wp2_with (first | (go_at_call 44; (with_reducible refine (HEI.out _).mono ?_); rintro _ Z1 ⟨rfl, hb1⟩; have hw1 := bl2 hw hb1) | (go_at_call 16; refine (known_any _).mono ?_; rintro _ Z3 ⟨rfl, hb3⟩))
                            go_ret
                            exact ⟨rfl, bl3 hw1 hb3⟩
                        · have dor : ((ue != 0) || (ve != 0)) = true := by
                            rw [Bool.or_eq_true]
                            by_cases h : ue = 0
                            · right; simpa using fun h2 => hok ⟨h, h2⟩
                            · left; simpa using h
                          by_cases hue : ue = 0
                          · have due : (ue != 0) = false := by simpa using hue
                            have dve : (ve != 0) = true := by simpa using fun h2 => hok ⟨hue, h2⟩
                            clear hok dor hue
                            go_wp2_with (first | (go_at_call 18; have _ := hb1; (with_reducible refine (HOB.out _ (bl2 hw hb1)).mono ?_); rintro _ Y2 ⟨G2, g2, rfl, hs2, -, hb2⟩) | (go_at_call 18; (with_reducible refine (HO3.out _ hw).mono ?_); rintro _ Y1 ⟨G1, g1, rfl, hs1, -, hb1⟩) | (go_at_call 52; (with_reducible refine (HVV.out _ _ _ _ _ ((hs1.below hb2).more hb2.size) hs2).mono ?_); rintro _ Y3 ⟨rfl, hb3⟩; have hx3 := bl2 (bl2 hb1 hb2) hb3; have hw3 := bl2 hw hx3; have gu := gu.below hx3 gu.lt; have gd := gd.below hx3 gd.lt) | (go_at_call 16; refine (known_any _).mono ?_; rintro _ Z3 ⟨rfl, hb4⟩))
                            go_ret
                            exact ⟨rfl, bl3 hw3 hb4⟩
                          · have due : (ue != 0) = true := by simpa using hue
                            clear hok dor hue
                            go_wp2_with (first | (go_at_call 18; have _ := hb1; (with_reducible refine (HOB.out _ (bl2 hw hb1)).mono ?_); rintro _ Y2 ⟨G2, g2, rfl, hs2, -, hb2⟩) | (go_at_call 18; (with_reducible refine (HO3.out _ hw).mono ?_); rintro _ Y1 ⟨G1, g1, rfl, hs1, -, hb1⟩) | (go_at_call 52; (with_reducible refine (HVV.out _ _ _ _ _ ((hs1.below hb2).more hb2.size) hs2).mono ?_); rintro _ Y3 ⟨rfl, hb3⟩; have hx3 := bl2 (bl2 hb1 hb2) hb3; have hw3 := bl2 hw hx3; have gu := gu.below hx3 gu.lt; have gd := gd.below hx3 gd.lt) | (go_at_call 16; refine (known_any _).mono ?_; rintro _ Z3 ⟨rfl, hb4⟩))
                            go_ret
                            exact ⟨rfl, bl3 hw3 hb4⟩
                      )
          · obtain ⟨rfl, rfl, hfe⟩ := hAN he
            have d5 : (de != 0) = true := by simpa using he
            have d6 : (fe != 0) = true := by simpa using hfe
            clear hAN hAC hf hd he hfe
            go_enter Try.func13, Try.ntmps13
            go_upto_region 4 with (first | (go_at_call 18; have _ := hw1; (with_reducible refine (HOB.out _ hw1).mono ?_); rintro _ W2 ⟨E2, e2, rfl, hs2, -, hb2⟩; have hw2 := bl2 hw1 hb2) | (go_at_call 18; (with_reducible refine (HOA.out _ (bla (Below.refl _ _))).mono ?_); rintro _ W1 ⟨E1, e1, rfl, hs1, -, hb1⟩; have hw1 := bl3 (Below.refl _ _) hb1; have gx : Blk W1 w.heap.size #[.slice A3 l3.length c3, .int .u32 M, .slice A4 tl.length c4] 66 := (Blk.at_ rfl).below hb1 (by first | omega | (simp; omega) | (simp; done))) | (go_at_call 52; (with_reducible refine (HAB.out _ _ _ _ _ ((hs1.below hb2).more hb2.size) hs2).mono ?_); rintro _ W3 ⟨rfl, hb3⟩; have hw3 := bl2 hw2 hb3; have gx := (gx.below hb2 gx.lt).below hb3 (gx.below hb2 gx.lt).lt))
            obtain ⟨B7, hB7⟩ : ∃ B, B = W3.heap.size := ⟨_, rfl⟩
            have gd : Blk (W3.alloc (.cells #[.int .i64 0, .int .i64 0] 51)) B7 #[.int .i64 0, .int .i64 0] 51 := Blk.at_ hB7
            refine gen_w (fun W => Below w.heap.size w W ∧ Blk W w.heap.size #[.slice A3 l3.length c3, .int .u32 M, .slice A4 tl.length c4] 66 ∧ Blk W B7 #[.int .i64 0, .int .i64 0] 51) ⟨bla hw3, gx.alloc _, gd⟩ ?_
            rw [← hB7]
            clear gx gd hw1 hw2 hw3 hb1 hb2 hb3 hs1 hs2 hB7
            rintro V1 ⟨hw, gx, gd⟩
            go_upto_region 5 with (first | (go_at_call 18; have _ := hw1; (with_reducible refine (HOA.out _ hw1).mono ?_); rintro _ W2 ⟨E2, e2, rfl, hs2, -, hb2⟩; have hw2 := bl2 hw1 hb2) | (go_at_call 18; (with_reducible refine (HOB.out _ hw).mono ?_); rintro _ W1 ⟨E1, e1, rfl, hs1, -, hb1⟩; have hw1 := bl2 hw hb1) | (go_at_call 52; (with_reducible refine (HBA.out _ _ _ _ _ ((hs1.below hb2).more hb2.size) hs2).mono ?_); rintro _ W3 ⟨rfl, hb3⟩; have hw3 := bl2 hw2 hb3; have hx3 := bl2 (bl2 hb1 hb2) hb3; have gx := gx.below hx3 gx.lt; have gd := gd.below hx3 gd.lt))
            obtain ⟨B9, hB9⟩ : ∃ B, B = W3.heap.size := ⟨_, rfl⟩
            have gf : Blk (W3.alloc (.cells #[.int .i64 fn, .int .i64 fd] 51)) B9 #[.int .i64 fn, .int .i64 fd] 51 := Blk.at_ hB9
            refine gen_w (fun W => Below w.heap.size w W ∧ Blk W w.heap.size #[.slice A3 l3.length c3, .int .u32 M, .slice A4 tl.length c4] 66 ∧ Blk W B7 #[.int .i64 0, .int .i64 0] 51 ∧ Blk W B9 #[.int .i64 fn, .int .i64 fd] 51) ⟨bla hw3, gx.alloc _, gd.alloc _, gf⟩ ?_
            rw [← hB9]
            clear gx gd gf hw1 hw2 hw3 hx3 hb1 hb2 hb3 hs1 hs2 hB9 hw
            rintro V2 ⟨hw, gx, gd, gf⟩
            have cd0 := gd.cell 0; have cd1 := gd.cell 1
            simp at cd0 cd1
            go_wp2_with (go_at_call 16; refine (known_any _).mono ?_; rintro _ W7 ⟨rfl, hb7⟩)
            go_ret
            exact ⟨rfl, bl2 hw hb7⟩
end Go.Proofs.Ytmfbiohdmhbkoaa

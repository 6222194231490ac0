/- odds: Same, Apart. -/
import Derived.Test.YtmfbiohdmhbkoaaGi
import Derived.Test.YtmfbiohdmhbkoaaPr
namespace Go.Proofs.Ytmfbiohdmhbkoaa
open Go.RowKit

/-- a bool and an error are returned -/
def RetB (b : Bool) (er : Int) (w : World) (e : Ending) (w' : World) : Prop := e = .returned (.tuple #[.bool b, .int .i64 er]) ∧ Below w.heap.size w w'
theorem lowest_w (A : Option Addr) (c : Nat) (l : List Int) (w : World) (ok : OkW l) (hr : Sl intCell 1 w w.heap.size A l) : Hid (∀ W, Below w.heap.size w W → Calls Try.prog 61 #[.slice A l.length c] W (RetL (lowL l) W)) :=
  fun W hW => lowest_any A c l W ok ((hr.below hW).more hW.size)
theorem two_zero {a b : List Int} (h : (if errW a ≠ 0 then errW a else errW b) = 0) : OkW a ∧ OkW b := by
  by_cases h1 : errW a = 0
  · rw [if_neg (fun hh => hh h1)] at h; exact ⟨errW_zero.1 h1, errW_zero.1 h⟩
  · rw [if_pos h1] at h; exact absurd h h1
set_option maxRecDepth 100000 in
set_option maxHeartbeats 4000000 in
theorem same_any (A A2 : Option Addr) (c c2 : Nat) (a b : List Int) (w : World) (hm : a.length ≤ 1000000000) (hm2 : b.length ≤ 1000000000) (hr : Sl intCell 1 w w.heap.size A a) (hr2 : Sl intCell 1 w w.heap.size A2 b) :
    Calls Try.prog 50 #[.slice A a.length c, .slice A2 b.length c2] w (RetB (sameR a b).1 (sameR a b).2 w) := by
  have HC := Lib.hid (fun W g (hW : Below w.heap.size w W) (h : g = W.heap.size) => check2_any A A2 c c2 a b W g h hm hm2 ((hr.below hW).more hW.size) ((hr2.below hW).more hW.size))
  by_cases he : (if errW a ≠ 0 then errW a else errW b) = 0
  · obtain ⟨o1, o2⟩ := two_zero he
    have HT : Hid (sameR a b = (lowL a == lowL b, 0)) := (by unfold sameR; rw [if_neg (fun h => h he)] : sameR a b = _)
    have HL1 := lowest_w A c a w o1 hr
    have HL2 := lowest_w A2 c2 b w o2 hr2
    have l1 : (lowL a).length ≤ 1000000 := by rw [lowL_len]; have := o1.len; omega
    rw [he] at HC
    clear he o1 o2 hr hr2
    obtain ⟨x, hx⟩ : ∃ x, x = lowL a := ⟨_, rfl⟩
    obtain ⟨y, hy⟩ : ∃ y, y = lowL b := ⟨_, rfl⟩
    rw [← hx] at HL1 HT l1
    rw [← hy] at HL2 HT
    clear hx hy
    go_enter Try.func50, Try.ntmps50
    go_wp2_with (first | (go_at_call 58; ((with_reducible refine (HC.out _ _ (Below.refl _ _) rfl).mono ?_); rintro _ w1 ⟨rfl, hb1⟩)) |
      (go_at_call 61; ((with_reducible refine (HL1.out _ hb1).mono ?_); rintro _ w2 ⟨B, d, rfl, hs2, hz2, hb2⟩; have HS2 := Lib.hid hs2; clear hs2 hz2; have hw2 := bl2 hb1 hb2)) |
      (go_at_call 61; ((with_reducible refine (HL2.out _ hw2).mono ?_); rintro _ w3 ⟨B3, d3, rfl, hs3, hz3, hb3⟩; have HS3 := Lib.hid hs3; clear hs3 hz3; have hw3 := bl2 hw2 hb3)) |
      (go_at_call 87; refine (equal_any B B3 d d3 x y _ (by omega) ((HS2.out.below hb3).more hb3.size) HS3.out).mono ?_; rintro _ w4 ⟨rfl, hb4⟩))
    exact bodyPost_ret (v := .tuple #[.bool (x == y), .int .i64 0]) (by simp [results, Try.results50, go_sem]) rfl ⟨by rw [HT.out], bl2 hw3 hb4⟩
  · have HT : Hid (sameR a b = (false, if errW a ≠ 0 then errW a else errW b)) := (by unfold sameR; rw [if_pos he] : sameR a b = _)
    have hb : ((if errW a ≠ 0 then errW a else errW b) != 0) = true := by simpa using he
    obtain ⟨ev, hev⟩ : ∃ ev, ev = (if errW a ≠ 0 then errW a else errW b) := ⟨_, rfl⟩
    rw [← hev] at HC hb HT
    clear hr hr2 he hev
    go_enter Try.func50, Try.ntmps50
    go_wp2_with ((go_at_call 58; ((with_reducible refine (HC.out _ _ (Below.refl _ _) rfl).mono ?_); rintro _ w1 ⟨rfl, hb1⟩)))
    exact bodyPost_ret (v := .tuple #[.bool false, .int .i64 ev]) (by simp [results, Try.results50, go_sem]) rfl ⟨by rw [HT.out], hb1⟩
theorem len_ne {n m : Nat} (h : n ≠ m) : ((n : Int) != (m : Int)) = true := by simp; omega
theorem len_eq {n m : Nat} (h : n = m) : ((n : Int) != (m : Int)) = false := by simp [h]
set_option maxRecDepth 100000 in
set_option maxHeartbeats 8000000 in
theorem apart_any (A A2 : Option Addr) (c c2 : Nat) (a b : List Int) (w : World) (hm : a.length ≤ 1000000000) (hm2 : b.length ≤ 1000000000) (hr : Sl intCell 1 w w.heap.size A a) (hr2 : Sl intCell 1 w w.heap.size A2 b) :
    Calls Try.prog 52 #[.slice A a.length c, .slice A2 b.length c2] w (RetC (apartR a b) w) := by
  have HC := Lib.hid (fun W g (hW : Below w.heap.size w W) (h : g = W.heap.size) => check2_any A A2 c c2 a b W g h hm hm2 ((hr.below hW).more hW.size) ((hr2.below hW).more hW.size))
  by_cases he : (if errW a ≠ 0 then errW a else errW b) = 0
  · obtain ⟨o1, o2⟩ := two_zero he
    by_cases hlen : a.length = b.length
    · have HL1 := lowest_w A c a w o1 hr
      have HL2 := lowest_w A2 c2 b w o2 hr2
      have q1 := low_ok o1; have q2 := low_ok o2
      have p1 := q1.pos; have p2 := q2.pos; have r1 := q1.le; have r2 := q2.le
      have l1 : (lowL a).length = a.length := lowL_len a
      have l2 : (lowL b).length = b.length := lowL_len b
      have hl4 := o1.len
      have HN1 := Lib.hid q1.nn; have HN2 := Lib.hid q2.nn
      have hne := len_eq hlen
      have hla : a.length ≤ b.length := by omega
      have hlb : b.length ≤ a.length := by omega
      have HSM := Lib.hid (fun W => small_any (sumL (lowL a)) (sumL (lowL b)) W (by omega) (by omega) (by omega) (by omega))
      rw [he] at HC
      by_cases hov : 1000000000000000 < sumL (lowL a) * sumL (lowL b)
      · have HT : Hid (apartR a b = (0, 0, 10)) := (by unfold apartR; rw [if_neg (fun h => h he), if_neg (fun h => h hlen), if_pos hov] : apartR a b = _)
        rw [smallB_false (by omega)] at HSM
        clear he o1 o2 hr hr2 q1 q2 hlen hov hm2
        obtain ⟨x, hx⟩ : ∃ x, x = lowL a := ⟨_, rfl⟩
        obtain ⟨y, hy⟩ : ∃ y, y = lowL b := ⟨_, rfl⟩
        rw [← hx] at HL1 l1 HN1 HSM r1
        rw [← hy] at HL2 l2 HN2 HSM r2
        clear hx hy p1 p2
        have hx6 : x.length ≤ 1000000 := by omega
        have hy6 : y.length ≤ 1000000 := by omega
        clear l1 l2
        go_enter Try.func52, Try.ntmps52
        go_wp2_with (first | (go_at_call 58; refine (HC.out _ _ (by (repeat (first | exact Below.refl _ _ | assumption | (refine Below.alloc ?_ (by first | omega | (simp; omega) | (simp; done)) _) | (refine Below.setCell ?_ (by first | omega | (simp; omega) | (simp; done)) _) | (refine Below.drew ?_) | (refine belowN ?_ _) | (refine Below.trans ?_ (Below.mono ‹Below _ _ _› (by first | omega | (simp; omega) | (simp; done))))))) (by simp)).mono ?_; rintro _ w1 ⟨rfl, hb1⟩; have hw1 : Below w.heap.size w w1 := bl3 (Below.refl _ _) hb1; have gR : Blk w1 w.heap.size #[.int .i64 0, .int .i64 0] 51 := (Blk.at_ rfl).below hb1 (by simp)) |
          (go_at_call 61; ((with_reducible refine (HL1.out _ hw1).mono ?_); rintro _ w2 ⟨B, d, rfl, hs2, hz2, hb2⟩; have HS2 := Lib.hid hs2; clear hs2 hz2; have hw2 := bl2 hw1 hb2)) |
          (go_at_call 61; ((with_reducible refine (HL2.out _ hw2).mono ?_); rintro _ w3 ⟨B3, d3, rfl, hs3, hz3, hb3⟩; have HS3 := Lib.hid hs3; have HS23 := Lib.hid ((HS2.out.below hb3).more hb3.size); clear hs3 hz3; have hw3 := bl2 hw2 hb3; have g3 := (gR.below hb2 gR.lt).below hb3 (gR.below hb2 gR.lt).lt; have c0 := g3.cell 0; have c1 := g3.cell 1; have f0 := g3.free 0; have f1 := g3.free 1; simp at c0 c1; have hz3 := g3.lt)) |
          (go_at_call 57; ((with_reducible refine (sum_any B d x w3 hx6 HN1.out (by omega) HS23.out).mono ?_); rintro _ _ ⟨rfl, rfl⟩)) |
          (go_at_call 57; ((with_reducible refine (sum_any B3 d3 y w3 hy6 HN2.out (by omega) HS3.out).mono ?_); rintro _ _ ⟨rfl, rfl⟩)) |
          (go_at_call 56; refine (HSM.out _).mono ?_; rintro _ _ ⟨rfl, rfl⟩))
        refine gen_w (fun W => Blk W w.heap.size #[.int .i64 0, .int .i64 0] 51 ∧ Below w.heap.size w W) ⟨by have := (g3.set 0 (.int .i64 0)).set 1 (.int .i64 0); simp at this; exact this, by have hfin := hw3; (repeat (first | exact Below.refl _ _ | assumption | (refine Below.alloc ?_ (by first | omega | (simp; omega) | (simp; done)) _) | (refine Below.setCell ?_ (by first | omega | (simp; omega) | (simp; done)) _) | (refine Below.drew ?_) | (refine belowN ?_ _) | (refine Below.trans ?_ (Below.mono ‹Below _ _ _› (by first | omega | (simp; omega) | (simp; done))))))⟩ ?_
        rintro W ⟨gW, hW⟩
        have q0 := gW.cell 0; have q1 := gW.cell 1
        simp at q0 q1
        exact bodyPost_ret (v := .tuple #[.agg #[.int .i64 0, .int .i64 0], .int .i64 10]) (by simp [results, Try.results52, go_sem, q0, q1]) rfl ⟨by rw [HT.out], hW⟩
      · have HT : Hid (apartR a b = (ratN (farL (lowL a) (lowL b) (sumL (lowL a)) (sumL (lowL b)) a.length) (sumL (lowL a) * sumL (lowL b)), ratD (farL (lowL a) (lowL b) (sumL (lowL a)) (sumL (lowL b)) a.length) (sumL (lowL a) * sumL (lowL b)), 0)) := (by unfold apartR; rw [if_neg (fun h => h he), if_neg (fun h => h hlen), if_neg hov] : apartR a b = _)
        rw [smallB_true (by omega)] at HSM
        have lx : (lowL a).length = (lowL b).length := by omega
        have st0 : 1 * 1 ≤ sumL (lowL a) * sumL (lowL b) := Int.mul_le_mul p1 p2 (by omega) (by omega)
        have HBD := Lib.hid (fun k h => farL_bd (k := k) q1.nn q2.nn (show 0 ≤ sumL (lowL a) by omega) (show 0 ≤ sumL (lowL b) by omega) lx h)
        have HPX := Lib.hid (fun k h => prod_at (k := k) q1.nn (show 0 ≤ sumL (lowL b) by omega) h)
        have HPY := Lib.hid (fun k h => prod_at (k := k) q2.nn (show 0 ≤ sumL (lowL a) by omega) h)
        have HTK := Lib.hid (fun k => (sumL_take_le q1.nn k).2)
        have HLA := Lib.hid l1
        clear he o1 o2 hr hr2 q1 q2 hlen hm2
        obtain ⟨x, hx⟩ : ∃ x, x = lowL a := ⟨_, rfl⟩
        obtain ⟨y, hy⟩ : ∃ y, y = lowL b := ⟨_, rfl⟩
        rw [← hx] at HL1 l1 HN1 HSM r1 HT p1 hov st0 lx HBD HPX HPY HTK HLA
        rw [← hy] at HL2 l2 HN2 HSM r2 HT p2 hov st0 lx HBD HPX HPY
        clear hx hy
        have hx6 : x.length ≤ 1000000 := by omega
        have hy6 : y.length ≤ 1000000 := by omega
        have hxy : y.length ≤ x.length ∧ x.length ≤ y.length := by omega
        obtain ⟨hxy1, hxy2⟩ := hxy
        rw [← l1] at HT
        have hov' : sumL x * sumL y ≤ 1000000000000000 := by omega
        clear l1 l2 lx hov
        obtain ⟨s, hs⟩ : ∃ s, s = sumL x := ⟨_, rfl⟩
        obtain ⟨t, ht⟩ : ∃ t, t = sumL y := ⟨_, rfl⟩
        have HSX : Hid (∀ W d (B : Option Addr), Sl intCell 1 W W.heap.size B x → Calls Try.prog 57 #[.slice B x.length d] W fun e w' => e = .returned (.int .i64 s) ∧ W = w') := (fun W d B h => by have := sum_any B d x W hx6 HN1.out (by omega) h; rw [← hs] at this; exact this : ∀ W d (B : Option Addr), _)
        have HSY : Hid (∀ W d (B : Option Addr), Sl intCell 1 W W.heap.size B y → Calls Try.prog 57 #[.slice B y.length d] W fun e w' => e = .returned (.int .i64 t) ∧ W = w') := (fun W d B h => by have := sum_any B d y W hy6 HN2.out (by omega) h; rw [← ht] at this; exact this : ∀ W d (B : Option Addr), _)
        rw [← hs, ← ht] at HT HSM st0 hov' HBD HPX HPY
        rw [← hs] at HTK r1 p1
        rw [← ht] at r2 p2
        clear hs ht
        have HRT := Lib.hid (fun W => ratio_any (farL x y s t x.length) (s * t) W (HBD.out _ (Nat.le_refl _)).1 (by omega) (by
          have h1 := (HBD.out _ (Nat.le_refl _)).2
          rw [List.take_length] at h1
          have h2 := Int.mul_le_mul_of_nonneg_right (HTK.out x.length) (show 0 ≤ t by omega)
          rw [List.take_length] at h2
          omega) (by omega))
        obtain ⟨rn, hrn⟩ : ∃ r, r = ratN (farL x y s t x.length) (s * t) := ⟨_, rfl⟩
        obtain ⟨rd, hrd⟩ : ∃ r, r = ratD (farL x y s t x.length) (s * t) := ⟨_, rfl⟩
        rw [← hrn, ← hrd] at HT HRT
        clear hrn hrd
        go_enter Try.func52, Try.ntmps52
        go_wp2_with (first | (go_at_call 58; refine (HC.out _ _ (by (repeat (first | exact Below.refl _ _ | assumption | (refine Below.alloc ?_ (by first | omega | (simp; omega) | (simp; done)) _) | (refine Below.setCell ?_ (by first | omega | (simp; omega) | (simp; done)) _) | (refine Below.drew ?_) | (refine belowN ?_ _) | (refine Below.trans ?_ (Below.mono ‹Below _ _ _› (by first | omega | (simp; omega) | (simp; done))))))) (by simp)).mono ?_; rintro _ w1 ⟨rfl, hb1⟩; have hw1 : Below w.heap.size w w1 := bl3 (Below.refl _ _) hb1; have gR : Blk w1 w.heap.size #[.int .i64 0, .int .i64 0] 51 := (Blk.at_ rfl).below hb1 (by simp)) |
          (go_at_call 61; ((with_reducible refine (HL1.out _ hw1).mono ?_); rintro _ w2 ⟨B, d, rfl, hs2, hz2, hb2⟩; have HS2 := Lib.hid hs2; clear hs2 hz2; have hw2 := bl2 hw1 hb2)) |
          (go_at_call 61; ((with_reducible refine (HL2.out _ hw2).mono ?_); rintro _ w3 ⟨B3, d3, rfl, hs3, hz3, hb3⟩; have HS3 := Lib.hid hs3; have HS23 := Lib.hid ((HS2.out.below hb3).more hb3.size); clear hs3 hz3; have hw3 := bl2 hw2 hb3; have g3 := (gR.below hb2 gR.lt).below hb3 (gR.below hb2 gR.lt).lt; have c0 := g3.cell 0; have c1 := g3.cell 1; have f0 := g3.free 0; have f1 := g3.free 1; simp at c0 c1; have hz3 := g3.lt)) |
          (go_at_call 57; ((with_reducible refine (HSX.out _ _ _ HS23.out).mono ?_); rintro _ _ ⟨rfl, rfl⟩)) |
          (go_at_call 57; ((with_reducible refine (HSY.out _ _ _ HS3.out).mono ?_); rintro _ _ ⟨rfl, rfl⟩)) |
          (go_at_call 56; refine (HSM.out _).mono ?_; rintro _ _ ⟨rfl, rfl⟩))
        have HG3 := Lib.hid g3; have HW3 := Lib.hid hw3
        have hz0 : w.heap.size < w3.heap.size := g3.lt
        clear g3 gR c0 c1 f0 f1 HC HL1 HL2 HSM hw1 hw2 hw3 hb1 hb2 hb3
        go_loopw [9, 40] (fun vn i wr => ∃ k : Nat, k ≤ x.length ∧ i = .int .i64 k ∧ vn = .int .i64 (farL x y s t k) ∧ Below w3.heap.size w3 wr) (fun _ i _ => x.length - (intOf i).toNat)
        case atStart => exact ⟨0, by omega, rfl, rfl, Below.refl _ _⟩
        case round =>
          obtain ⟨k, hk, rfl, rfl, hb⟩ := hrel
          by_cases hlt : k < x.length
          · have hlt2 : k < y.length := by omega
            obtain ⟨xb, xo, rfl, hxb, cx⟩ := (HS23.out.below hb).int_at hlt
            obtain ⟨yb, yo, rfl, hyb, cy⟩ := (HS3.out.below hb).int_at hlt2
            obtain ⟨b0, b1⟩ := HBD.out k (by omega)
            obtain ⟨b2, b3⟩ := HBD.out (k + 1) (by omega)
            have b4 := Int.mul_le_mul_of_nonneg_right (HTK.out k) (show 0 ≤ t by omega)
            have b5 := Int.mul_le_mul_of_nonneg_right (HTK.out (k + 1)) (show 0 ≤ t by omega)
            obtain ⟨x0, x1⟩ := HPX.out k hlt
            obtain ⟨y0, y1⟩ := HPY.out k hlt2
            have hst : s * t = t * s := Int.mul_comm _ _
            rw [hst] at st0 hov' b4 b5 x1
            have HF : Hid (farL x y s t (k + 1) = farL x y s t k + max (x[k] * t - y[k] * s) 0) := (by
              show farL x y s t k + max (x.getD k 0 * t - y.getD k 0 * s) 0 = _
              simp [hlt, hlt2] : farL x y s t (k + 1) = _)
            rw [HF.out] at b2 b3
            obtain ⟨p, hp⟩ : ∃ p, p = x[k] * t := ⟨_, rfl⟩
            obtain ⟨q, hq⟩ : ∃ q, q = y[k] * s := ⟨_, rfl⟩
            obtain ⟨f, hf⟩ : ∃ f, f = farL x y s t k := ⟨_, rfl⟩
            obtain ⟨u, hu⟩ : ∃ u, u = t * s := ⟨_, rfl⟩
            rw [← hp] at x0 x1 HF b2 b3
            rw [← hq] at y0 y1 HF b2 b3
            rw [← hf] at b0 b1 b2 b3 HF ⊢
            rw [← hu] at x1 y1 st0 hov' b4 b5
            have w1 : IntKind.i64.wrap (x[k] * t) = p := by rw [← hp]; exact IntWalk.i64_in _ ⟨by omega, by omega⟩
            have w2 : IntKind.i64.wrap (y[k] * s) = q := by rw [← hq]; exact IntWalk.i64_in _ ⟨by omega, by omega⟩
            have w4 : IntKind.i64.wrap (p - q) = p - q := IntWalk.i64_in _ ⟨by omega, by omega⟩
            have em : max (p - q) 0 = if p - q < 0 then 0 else p - q := by split <;> omega
            rw [em] at b2 b3 HF
            have w5 : IntKind.i64.wrap (f + if p - q < 0 then 0 else p - q) = f + if p - q < 0 then 0 else p - q := IntWalk.i64_in _ ⟨by omega, by omega⟩
            clear em b2
            have hj0 : (0 : Int) ≤ (k : Int) := by omega
            have hj1 : (k : Int) < (x.length : Int) := by omega
            have hj2 : (k : Int) < (y.length : Int) := by omega
            obtain ⟨X, hX⟩ : ∃ X, X = x[k] := ⟨_, rfl⟩
            obtain ⟨Y, hY⟩ : ∃ Y, Y = y[k] := ⟨_, rfl⟩
            rw [← hX] at cx w1
            rw [← hY] at cy w2
            clear hp hq hf hu hX hY hst b1 b3 b4 b5 st0 hov'
            go_wp2
            go_quiet (fail)
            go_wp2
            go_roundw
            case rel => exact ⟨k + 1, by omega, by go_num, by rw [HF.out], belowN hb _⟩
            case measure => simp [intOf] <;> omega
          · obtain rfl : k = x.length := by omega
            have g3 := HG3.out.below hb hz0
            have c0 := g3.cell 0; have c1 := g3.cell 1; have f0 := g3.free 0; have f1 := g3.free 1
            simp at c0 c1
            have hz4 := g3.lt
            obtain ⟨n, hn⟩ : ∃ n, n = farL x y s t x.length := ⟨_, rfl⟩
            rw [← hn] at HRT ⊢
            clear hn
            go_wp2_with (go_at_call 75; refine (HRT.out _).mono ?_; rintro _ w5 ⟨rfl, hb5⟩; have g5 := g3.below hb5 g3.lt; have c2 := g5.cell 0; have c3 := g5.cell 1; have f2 := g5.free 0; have f3 := g5.free 1; simp at c2 c3; have hz5 := g5.lt)
            have hw5 := bl2 (bl2 HW3.out hb) hb5
            refine gen_w (fun W => Blk W w.heap.size #[.int .i64 rn, .int .i64 rd] 51 ∧ Below w.heap.size w W) ⟨by have := (g5.set 0 (.int .i64 rn)).set 1 (.int .i64 rd); simp at this; exact this, by (repeat (first | exact Below.refl _ _ | assumption | (refine Below.alloc ?_ (by first | omega | (simp; omega) | (simp; done)) _) | (refine Below.setCell ?_ (by first | omega | (simp; omega) | (simp; done)) _) | (refine Below.drew ?_) | (refine belowN ?_ _) | (refine Below.trans ?_ (Below.mono ‹Below _ _ _› (by first | omega | (simp; omega) | (simp; done))))))⟩ ?_
            rintro W ⟨gW, hW⟩
            have q0 := gW.cell 0; have q1 := gW.cell 1
            simp at q0 q1
            exact bodyPost_ret (v := .tuple #[.agg #[.int .i64 rn, .int .i64 rd], .int .i64 0]) (by simp [results, Try.results52, go_sem, q0, q1]) rfl ⟨by rw [HT.out], hW⟩
    · have HT : Hid (apartR a b = (0, 0, 2)) := (by unfold apartR; rw [if_neg (fun h => h he), if_pos hlen] : apartR a b = _)
      have hne := len_ne hlen
      rw [he] at HC
      clear he o1 o2 hr hr2 hlen
      go_enter Try.func52, Try.ntmps52
      go_wp2_with (go_at_call 58; refine (HC.out _ _ (by (repeat (first | exact Below.refl _ _ | assumption | (refine Below.alloc ?_ (by first | omega | (simp; omega) | (simp; done)) _) | (refine Below.setCell ?_ (by first | omega | (simp; omega) | (simp; done)) _) | (refine Below.drew ?_) | (refine belowN ?_ _) | (refine Below.trans ?_ (Below.mono ‹Below _ _ _› (by first | omega | (simp; omega) | (simp; done))))))) (by simp)).mono ?_; rintro _ w1 ⟨rfl, hb1⟩; have hw1 : Below w.heap.size w w1 := bl3 (Below.refl _ _) hb1; have gR : Blk w1 w.heap.size #[.int .i64 0, .int .i64 0] 51 := (Blk.at_ rfl).below hb1 (by simp); have c0 := gR.cell 0; have c1 := gR.cell 1; have f0 := gR.free 0; have f1 := gR.free 1; simp at c0 c1; have hz3 := gR.lt)
      refine gen_w (fun W => Blk W w.heap.size #[.int .i64 0, .int .i64 0] 51 ∧ Below w.heap.size w W) ⟨by have := (gR.set 0 (.int .i64 0)).set 1 (.int .i64 0); simp at this; exact this, by have hfin := hw1; (repeat (first | exact Below.refl _ _ | assumption | (refine Below.alloc ?_ (by first | omega | (simp; omega) | (simp; done)) _) | (refine Below.setCell ?_ (by first | omega | (simp; omega) | (simp; done)) _) | (refine Below.drew ?_) | (refine belowN ?_ _) | (refine Below.trans ?_ (Below.mono ‹Below _ _ _› (by first | omega | (simp; omega) | (simp; done))))))⟩ ?_
      rintro W ⟨gW, hW⟩
      have q0 := gW.cell 0; have q1 := gW.cell 1
      simp at q0 q1
      exact bodyPost_ret (v := .tuple #[.agg #[.int .i64 0, .int .i64 0], .int .i64 2]) (by simp [results, Try.results52, go_sem, q0, q1]) rfl ⟨by rw [HT.out], hW⟩
  · have HT : Hid (apartR a b = (0, 0, if errW a ≠ 0 then errW a else errW b)) := (by unfold apartR; rw [if_pos he] : apartR a b = _)
    have hb : ((if errW a ≠ 0 then errW a else errW b) != 0) = true := by simpa using he
    obtain ⟨ev, hev⟩ : ∃ ev, ev = (if errW a ≠ 0 then errW a else errW b) := ⟨_, rfl⟩
    rw [← hev] at HC hb HT
    clear hr hr2 he hev
    go_enter Try.func52, Try.ntmps52
    go_wp2_with (go_at_call 58; refine (HC.out _ _ (by (repeat (first | exact Below.refl _ _ | assumption | (refine Below.alloc ?_ (by first | omega | (simp; omega) | (simp; done)) _) | (refine Below.setCell ?_ (by first | omega | (simp; omega) | (simp; done)) _) | (refine Below.drew ?_) | (refine belowN ?_ _) | (refine Below.trans ?_ (Below.mono ‹Below _ _ _› (by first | omega | (simp; omega) | (simp; done))))))) (by simp)).mono ?_; rintro _ w1 ⟨rfl, hb1⟩; have hw1 : Below w.heap.size w w1 := bl3 (Below.refl _ _) hb1; have gR : Blk w1 w.heap.size #[.int .i64 0, .int .i64 0] 51 := (Blk.at_ rfl).below hb1 (by simp); have c0 := gR.cell 0; have c1 := gR.cell 1; have f0 := gR.free 0; have f1 := gR.free 1; simp at c0 c1; have hz3 := gR.lt)
    refine gen_w (fun W => Blk W w.heap.size #[.int .i64 0, .int .i64 0] 51 ∧ Below w.heap.size w W) ⟨by have := (gR.set 0 (.int .i64 0)).set 1 (.int .i64 0); simp at this; exact this, by have hfin := hw1; (repeat (first | exact Below.refl _ _ | assumption | (refine Below.alloc ?_ (by first | omega | (simp; omega) | (simp; done)) _) | (refine Below.setCell ?_ (by first | omega | (simp; omega) | (simp; done)) _) | (refine Below.drew ?_) | (refine belowN ?_ _) | (refine Below.trans ?_ (Below.mono ‹Below _ _ _› (by first | omega | (simp; omega) | (simp; done))))))⟩ ?_
    rintro W ⟨gW, hW⟩
    have q0 := gW.cell 0; have q1 := gW.cell 1
    simp at q0 q1
    exact bodyPost_ret (v := .tuple #[.agg #[.int .i64 0, .int .i64 0], .int .i64 ev]) (by simp [results, Try.results52, go_sem, q0, q1]) rfl ⟨by rw [HT.out], hW⟩
end Go.Proofs.Ytmfbiohdmhbkoaa

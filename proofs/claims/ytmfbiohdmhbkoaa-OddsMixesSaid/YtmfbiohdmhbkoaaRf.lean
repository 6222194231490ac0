/- The reference: Outcomes, chance, Of. -/
import Derived.Test.YtmfbiohdmhbkoaaRb
import Derived.Test.YtmfbiohdmhbkoaaGf
import Derived.Test.YtmfbiohdmhbkoaaPv
namespace Go.Proofs.Ytmfbiohdmhbkoaa
open Go.RowKit

set_option maxRecDepth 100000 in
set_option maxHeartbeats 4000000 in
theorem routs_any (A : Option Addr) (c : Nat) (l : List Int) (n : Int) (w : World) (hm : l.length ≤ 1000000000) (_h0 : 0 ≤ n) (_h1 : n ≤ 1000000000) (hr : Sl intCell 1 w w.heap.size A l) :
    Calls Try.prog 76 #[.slice A l.length c, .int .i64 n] w fun e w' => e = .returned (.bool (amongB l n)) ∧ Below w.heap.size w w' := by
  have HR := Lib.hid hr
  clear hr
  obtain ⟨v, hv⟩ : ∃ v, v = amongB l n := ⟨_, rfl⟩
  have HV := Lib.hid hv
  rw [← hv]
  clear hv
  go_enter Try.func76, Try.ntmps76
  go_wp2
  go_loopw [5] (fun i wr => ∃ (k : Nat) (next : Int), k ≤ l.length ∧ i = .int .i64 k ∧ 0 ≤ next ∧ Hid (v = amongF n next (l.drop k)) ∧ Hid (k = 0 → next = 0) ∧ Hid (∀ (j : Nat) (h : j < l.length), k = j + 1 → next = l[j] + 1) ∧ Below w.heap.size w wr) (fun i _ => l.length - (intOf i).toNat)
  case atStart => exact ⟨0, 0, by omega, rfl, by omega, HV, (fun _ => rfl), (fun j _ h => absurd h (by omega)), Below.refl _ _⟩
  case round =>
    obtain ⟨k, next, hk, rfl, n0, HA, HZ, HP, hbr⟩ := hrel
    by_cases hlt : k < l.length
    · obtain ⟨b, o, hA, hb, hc⟩ := (HR.out.below hbr).int_at hlt
      have HD := Lib.hid (amongF_drop n next l k hlt)
      have hj0 : (0 : Int) ≤ (k : Int) := by omega
      have hj1 : (k : Int) < (l.length : Int) := by omega
      by_cases hk0 : k = 0
      · have hn0 : next = 0 := HZ.out hk0
        subst hA
        obtain ⟨x, hx⟩ : ∃ x, x = l[k] := ⟨_, rfl⟩
        have HNP : Hid (∀ (j : Nat) (h : j < l.length), k + 1 = j + 1 → x + 1 = l[j] + 1) := (fun j h e => by
          have e' : k = j := by omega
          subst e'
          rw [hx] : ∀ (j : Nat) (h : j < l.length), k + 1 = j + 1 → x + 1 = l[j] + 1)
        rw [← hx] at hc HD
        have k4 : decide ((0 : Int) < (k : Int)) = false := by simp; omega
        have k6 : decide (0 < k) = false := by simp; omega
        clear hx HZ HP hk0
        by_cases f0 : x < 0
        · have e0 : decide (x < 0) = true := by simpa using f0
          have HT : Hid (v = false) := (by rw [HA.out, HD.out, hn0, show decide (0 ≤ x) = false by simp; omega]; rfl : v = false)
          clear hn0
          go_wp2
          (refine wp_region_ext (by kernel_rfl) (by kernel_rfl) ?_; (repeat (go_big_quiet_step((fail)))); with_reducible refine wpQuiet_nil ?_; intro w9 hw9; have hb9 := ext_below hw9; clear hw9)
          go_wp2
          go_ret
          exact ⟨ret_bool HT.out.symm, bl2 hbr hb9⟩
        · have e0 : decide (x < 0) = false := by simp; omega
          by_cases f1 : n ≤ x
          · have e1 : decide (n ≤ x) = true := by simpa using f1
            have HT : Hid (v = false) := (by rw [HA.out, HD.out, show decide (x < n) = false by simp; omega]; simp : v = false)
            clear hn0
            go_wp2
            (refine wp_region_ext (by kernel_rfl) (by kernel_rfl) ?_; (repeat (go_big_quiet_step((fail)))); with_reducible refine wpQuiet_nil ?_; intro w9 hw9; have hb9 := ext_below hw9; clear hw9)
            go_wp2
            go_ret
            exact ⟨ret_bool HT.out.symm, bl2 hbr hb9⟩
          · have e1 : decide (n ≤ x) = false := by simp; omega
            have HT : Hid (v = amongF n (x + 1) (l.drop (k + 1))) := (by rw [HA.out, HD.out, hn0, show decide (0 ≤ x) = true by simp; omega, show decide (x < n) = true by simp; omega]; rfl : v = amongF n (x + 1) (l.drop (k + 1)))
            clear hn0
            go_wp2
            (refine wp_region_ext (by kernel_rfl) (by kernel_rfl) ?_; (repeat (go_big_quiet_step((fail)))); with_reducible refine wpQuiet_nil ?_; intro w9 hw9; have hb9 := ext_below hw9; clear hw9)
            go_wp2
            go_roundw
            case rel => exact ⟨k + 1, x + 1, by omega, by go_num, by omega, HT, (fun h => absurd h (by omega)), HNP, bl2 hbr hb9⟩
            case measure => simp [intOf] <;> omega
      · have hkp : k - 1 < l.length := by omega
        obtain ⟨b', o', hA', hb', hc'⟩ := (HR.out.below hbr).int_at hkp
        have hn1 := HP.out _ hkp (by omega)
        subst hA
        simp only [Option.some.injEq, Addr.mk.injEq, and_true] at hA'
        obtain ⟨rfl, rfl⟩ := hA'
        obtain ⟨x, hx⟩ : ∃ x, x = l[k] := ⟨_, rfl⟩
        obtain ⟨y, hy⟩ : ∃ y, y = l[k - 1] := ⟨_, rfl⟩
        have HNP : Hid (∀ (j : Nat) (h : j < l.length), k + 1 = j + 1 → x + 1 = l[j] + 1) := (fun j h e => by
          have e' : k = j := by omega
          subst e'
          rw [hx] : ∀ (j : Nat) (h : j < l.length), k + 1 = j + 1 → x + 1 = l[j] + 1)
        rw [← hx] at hc HD
        rw [← hy] at hc' hn1
        have k1 : ((k : Int) - 1).toNat = k - 1 := by omega
        have k2 : (0 : Int) ≤ (k : Int) - 1 := by omega
        have k3 : (k : Int) - 1 < (l.length : Int) := by omega
        have k4 : decide ((0 : Int) < (k : Int)) = true := by simp; omega
        have k5 : 0 < k := by omega
        clear hx hy HZ HP
        by_cases f0 : x < 0
        · have e0 : decide (x < 0) = true := by simpa using f0
          have HT : Hid (v = false) := (by rw [HA.out, HD.out, show decide (next ≤ x) = false by simp; omega]; rfl : v = false)
          clear hn1
          go_wp2
          (refine wp_region_ext (by kernel_rfl) (by kernel_rfl) ?_; (repeat (go_big_quiet_step((fail)))); with_reducible refine wpQuiet_nil ?_; intro w9 hw9; have hb9 := ext_below hw9; clear hw9)
          go_wp2
          go_ret
          exact ⟨ret_bool HT.out.symm, bl2 hbr hb9⟩
        · have e0 : decide (x < 0) = false := by simp; omega
          by_cases f1 : n ≤ x
          · have e1 : decide (n ≤ x) = true := by simpa using f1
            have HT : Hid (v = false) := (by rw [HA.out, HD.out, show decide (x < n) = false by simp; omega]; simp : v = false)
            clear hn1
            go_wp2
            (refine wp_region_ext (by kernel_rfl) (by kernel_rfl) ?_; (repeat (go_big_quiet_step((fail)))); with_reducible refine wpQuiet_nil ?_; intro w9 hw9; have hb9 := ext_below hw9; clear hw9)
            go_wp2
            go_ret
            exact ⟨ret_bool HT.out.symm, bl2 hbr hb9⟩
          · have e1 : decide (n ≤ x) = false := by simp; omega
            by_cases f2 : x ≤ y
            · have e2 : decide (x ≤ y) = true := by simpa using f2
              have HT : Hid (v = false) := (by rw [HA.out, HD.out, show decide (next ≤ x) = false by simp; omega]; rfl : v = false)
              clear hn1
              go_wp2
              (refine wp_region_ext (by kernel_rfl) (by kernel_rfl) ?_; (repeat (go_big_quiet_step((fail)))); with_reducible refine wpQuiet_nil ?_; intro w9 hw9; have hb9 := ext_below hw9; clear hw9)
              go_wp2
              go_ret
              exact ⟨ret_bool HT.out.symm, bl2 hbr hb9⟩
            · have e2 : decide (x ≤ y) = false := by simpa using f2
              have HT : Hid (v = amongF n (x + 1) (l.drop (k + 1))) := (by rw [HA.out, HD.out, show decide (next ≤ x) = true by simp; omega, show decide (x < n) = true by simp; omega]; rfl : v = amongF n (x + 1) (l.drop (k + 1)))
              clear hn1
              go_wp2
              (refine wp_region_ext (by kernel_rfl) (by kernel_rfl) ?_; (repeat (go_big_quiet_step((fail)))); with_reducible refine wpQuiet_nil ?_; intro w9 hw9; have hb9 := ext_below hw9; clear hw9)
              go_wp2
              go_roundw
              case rel => exact ⟨k + 1, x + 1, by omega, by go_num, by omega, HT, (fun h => absurd h (by omega)), HNP, bl2 hbr hb9⟩
              case measure => simp [intOf] <;> omega
    · obtain rfl : k = l.length := by omega
      have HT : Hid (v = true) := (by rw [HA.out, List.drop_length]; rfl : v = true)
      go_wp2
      go_ret
      exact ⟨ret_bool HT.out.symm, hbr⟩
set_option maxRecDepth 100000 in
set_option maxHeartbeats 1000000 in
theorem rchance_any (n d : Int) (w : World) (hn : 0 ≤ n) (hd : 0 < d) (hn' : n ≤ 4000000000000000000) (hd' : d ≤ 4000000000000000000) : Calls Try.prog 77 #[.int .i64 n, .int .i64 d] w (RetC1 (ratN n d) (ratD n d) w) := by
  have HG := Lib.hid (fun W => rdiv_any n d W hn (by omega) hn' hd')
  have g0 := gI_pos (a := n) (b := d) (.inr hd)
  have g1 := gI_le_right n hd
  have HN : Hid (ratN n d = n / gI n d) := (rfl : ratN n d = _)
  have HD : Hid (ratD n d = d / gI n d) := (rfl : ratD n d = _)
  obtain ⟨g, hg⟩ : ∃ g, g = gI n d := ⟨_, rfl⟩
  rw [← hg] at g0 g1 HN HD
  rw [← hg] at HG
  clear hg
  go_enter Try.func77, Try.ntmps77
  go_wp2_with (go_at_call 63; refine (HG.out _).mono ?_; rintro _ w1 ⟨rfl, hb1⟩; have gR : Blk w1 w.heap.size #[.int .i64 0, .int .i64 0] 51 := (Blk.at_ rfl).below hb1 (by simp))
  have hz := gR.lt
  have c0 := gR.cell 0; have c1 := gR.cell 1
  have f0 := gR.free 0; have f1 := gR.free 1
  simp at c0 c1
  go_region
  all_goals (
    go_wp2
    refine gen_w (fun W => Blk W w.heap.size #[.int .i64 (n / g), .int .i64 (d / g)] 51 ∧ Below w.heap.size w W) ⟨by have := (gR.set 0 (.int .i64 (n / g))).set 1 (.int .i64 (d / g)); simp at this; exact this, by (repeat (first | exact Below.refl _ _ | assumption | (refine Below.alloc ?_ (by first | omega | (simp; omega) | (simp; done)) _) | (refine Below.setCell ?_ (by first | omega | (simp; omega) | (simp; done)) _) | (refine Below.drew ?_) | (refine belowN ?_ _) | (refine Below.trans ?_ (Below.mono ‹Below _ _ _› (by first | omega | (simp; omega) | (simp; done))))))⟩ ?_
    rintro W ⟨gW, hW⟩
    have q0 := gW.cell 0; have q1 := gW.cell 1
    simp at q0 q1
    exact bodyPost_ret (v := .agg #[.int .i64 (n / g), .int .i64 (d / g)]) (by simp [results, Try.results77, go_sem, q0, q1]) rfl ⟨by rw [HN.out, HD.out], hW⟩)
theorem ofR_er {l o : List Int} (h : errW l ≠ 0) : ofR l o = (0, 0, errW l) := by unfold ofR; rw [if_neg h]
theorem ofR_bad {l o : List Int} (h : errW l = 0) (h2 : amongB o l.length = false) : ofR l o = (0, 0, 2) := by unfold ofR; rw [if_pos h, if_neg (by simp [h2])]
theorem ofR_ok {l o : List Int} (h : errW l = 0) (h2 : amongB o l.length = true) : ofR l o = (ratN (selS l o) (sumL l), ratD (selS l o) (sumL l), 0) := by
  unfold ofR; rw [if_pos h, if_pos h2, keepL_sel h2]
set_option maxRecDepth 100000 in
set_option maxHeartbeats 4000000 in
theorem rof_any (A A2 : Option Addr) (c c2 : Nat) (l o : List Int) (w : World) (hm2 : o.length ≤ 1000000000) (hr : Sl intCell 1 w w.heap.size A l) (hr2 : Sl intCell 1 w w.heap.size A2 o) :
    Calls Try.prog 37 #[.slice A l.length c, .slice A2 o.length c2] w (RetC (ofR l o) w) := by
  have hal : Below w.heap.size w (w.alloc (.cells #[.int .i64 0, .int .i64 0] 51)) := (Below.refl _ _).alloc (Nat.le_refl _) _
  have HC := Lib.hid (rcheck_any A c l _ ((hr.below hal).more hal.size))
  have gR := Blk.new w #[.int .i64 0, .int .i64 0] 51
  by_cases he : errW l = 0
  · have ok := errW_zero.1 he
    have hl4 := ok.len
    rw [he] at HC
    have HO := Lib.hid (fun W hW => routs_any A2 c2 o l.length W hm2 (by omega) (by omega) ((hr2.below (w' := W) hW).more hW.size))
    by_cases ho : amongB o l.length = true
    · have HT := Lib.hid (ofR_ok he ho)
      have s0 := selS_nn (w := l) (o := o) ok.nn
      have hk : selS l o ≤ sumL l := by rw [← keepL_sel ho]; exact keepL_le ok ho
      have hp := ok.pos; have hle := ok.le
      have HCH := Lib.hid (fun W => rchance_any (selS l o) (sumL l) W s0 (by omega) (by omega) (by omega))
      have HS := Lib.hid (fun W hW => rtotal_any A c l W (by omega) ok.nn (by omega) ((hr.below (w' := W) hW).more hW.size))
      have HSP := Lib.hid (fun k => (⟨by have h1 := selS_split l o k; have h2 := selS_nn (w := l) (o := o.drop k) ok.nn; omega, selS_nn ok.nn⟩ : selS l (o.take k) ≤ 1000000000000000 ∧ 0 ≤ selS l (o.take k)))
      have HIN := Lib.hid (among_spec ho)
      have HR := Lib.hid hr; have HR2 := Lib.hid hr2
      rw [ho] at HO
      clear he ok ho hr hr2 hk s0
      obtain ⟨x, hx⟩ : ∃ x, x = ratN (selS l o) (sumL l) := ⟨_, rfl⟩
      obtain ⟨y, hy⟩ : ∃ y, y = ratD (selS l o) (sumL l) := ⟨_, rfl⟩
      rw [← hx, ← hy] at HT HCH
      clear hx hy
      go_enter Try.func37, Try.ntmps37
      go_wp2_with (first | (go_at_call 36; refine HC.out.mono ?_; rintro _ _ ⟨rfl, rfl⟩) | (go_at_call 76; refine (HO.out _ (by (repeat (first | exact Below.refl _ _ | assumption | (refine Below.alloc ?_ (by first | omega | (simp; omega) | (simp; done)) _) | (refine Below.setCell ?_ (by first | omega | (simp; omega) | (simp; done)) _) | (refine Below.drew ?_) | (refine belowN ?_ _) | (refine Below.trans ?_ (Below.mono ‹Below _ _ _› (by first | omega | (simp; omega) | (simp; done)))))))).mono ?_; rintro _ w1 ⟨rfl, hb1⟩))
      have hw1 : Below w.heap.size w w1 := bl3 (Below.refl _ _) hb1
      have gR := gR.below hb1 gR.lt
      clear hb1
      go_loop [7, 8] (fun s i => ∃ k : Nat, k ≤ o.length ∧ i = .int .i64 k ∧ s = .int .i64 (selS l (o.take k))) (fun _ i => o.length - (intOf i).toNat)
      case atStart => exact ⟨0, by omega, rfl, rfl⟩
      case round =>
        obtain ⟨k, hk, rfl, rfl⟩ := hrel
        by_cases hlt : k < o.length
        · obtain ⟨b, oo, rfl, hb, hc⟩ := (HR2.out.below hw1).int_at hlt
          have HS1 := Lib.hid (selS_take l o k hlt)
          obtain ⟨k0, k1⟩ := HIN.out _ (List.getElem_mem hlt)
          obtain ⟨z0, z1⟩ := HSP.out k
          obtain ⟨z2, z3⟩ := HSP.out (k + 1)
          obtain ⟨T, hT⟩ := Int.eq_ofNat_of_zero_le k0
          have hTl : T < l.length := by omega
          obtain ⟨b2, oo2, rfl, hb2, hc2⟩ := (HR.out.below hw1).int_at hTl
          have e : l.getD (o[k]).toNat 0 = l[T] := by rw [hT, Int.toNat_natCast]; simp [hTl]
          rw [e] at HS1
          rw [HS1.out] at z2 z3
          obtain ⟨s, hs'⟩ : ∃ s, s = selS l (o.take k) := ⟨_, rfl⟩
          obtain ⟨x, hx⟩ : ∃ x, x = l[T] := ⟨_, rfl⟩
          rw [← hs'] at z0 z1 z2 z3 HS1 ⊢
          rw [← hx] at hc2 HS1 z2 z3
          rw [hT] at hc
          have t0 : (0 : Int) ≤ (T : Int) := by omega
          have t1 : (T : Int) < (l.length : Int) := by omega
          clear hs' hx hT k0 k1 e
          go_wp2
          go_round
          case rel => exact ⟨k + 1, by omega, by go_num, by rw [HS1.out]⟩
          case measure => simp [intOf]; omega
        · obtain rfl : k = o.length := by omega
          rw [List.take_length]
          obtain ⟨s, hs⟩ : ∃ s, s = selS l o := ⟨_, rfl⟩
          obtain ⟨t, ht⟩ : ∃ t, t = sumL l := ⟨_, rfl⟩
          rw [← hs] at HCH ⊢
          rw [← ht] at HCH HS
          clear hs ht
          go_wp2_with (first | (go_at_call 39; refine (HS.out _ (by (repeat (first | exact Below.refl _ _ | assumption | (refine Below.alloc ?_ (by first | omega | (simp; omega) | (simp; done)) _) | (refine Below.setCell ?_ (by first | omega | (simp; omega) | (simp; done)) _) | (refine Below.drew ?_) | (refine belowN ?_ _) | (refine Below.trans ?_ (Below.mono ‹Below _ _ _› (by first | omega | (simp; omega) | (simp; done)))))))).mono ?_; rintro _ _ ⟨rfl, rfl⟩) | (go_at_call 77; refine (HCH.out _).mono ?_; rintro _ w2 ⟨rfl, hb2⟩; have gR := gR.below hb2 gR.lt; have c0 := gR.cell 0; have c1 := gR.cell 1; have f0 := gR.free 0; have f1 := gR.free 1; simp at c0 c1; have hz2 := gR.lt; have hw2 := bl2 hw1 hb2))
          refine gen_w (fun W => Blk W w.heap.size #[.int .i64 (x), .int .i64 (y)] 51 ∧ Below w.heap.size w W) ⟨by first | exact gR | (have := (gR.set 0 (.int .i64 (x))).set 1 (.int .i64 (y)); simpa using this), by (repeat (first | exact Below.refl _ _ | assumption | (refine Below.alloc ?_ (by first | omega | (simp; omega) | (simp; done)) _) | (refine Below.setCell ?_ (by first | omega | (simp; omega) | (simp; done)) _) | (refine Below.drew ?_) | (refine belowN ?_ _) | (refine Below.trans ?_ (Below.mono ‹Below _ _ _› (by first | omega | (simp; omega) | (simp; done))))))⟩ ?_
          rintro W ⟨gW, hW⟩
          have q0 := gW.cell 0; have q1 := gW.cell 1
          simp at q0 q1
          exact bodyPost_ret (v := .tuple #[.agg #[.int .i64 (x), .int .i64 (y)], .int .i64 (0)]) (by simp [results, Try.results37, go_sem, q0, q1]) rfl ⟨by rw [HT.out], hW⟩
    · simp only [Bool.not_eq_true] at ho
      have HT := Lib.hid (ofR_bad he ho)
      rw [ho] at HO
      clear he ok ho hr hr2
      go_enter Try.func37, Try.ntmps37
      go_wp2_with (first | (go_at_call 36; refine HC.out.mono ?_; rintro _ _ ⟨rfl, rfl⟩) | (go_at_call 76; refine (HO.out _ (by (repeat (first | exact Below.refl _ _ | assumption | (refine Below.alloc ?_ (by first | omega | (simp; omega) | (simp; done)) _) | (refine Below.setCell ?_ (by first | omega | (simp; omega) | (simp; done)) _) | (refine Below.drew ?_) | (refine belowN ?_ _) | (refine Below.trans ?_ (Below.mono ‹Below _ _ _› (by first | omega | (simp; omega) | (simp; done)))))))).mono ?_; rintro _ w1 ⟨rfl, hb1⟩; have gR := gR.below hb1 gR.lt; have c0 := gR.cell 0; have c1 := gR.cell 1; have f0 := gR.free 0; have f1 := gR.free 1; simp at c0 c1; have hz2 := gR.lt; have hw1 : Below w.heap.size w w1 := bl3 (Below.refl _ _) hb1))
      refine gen_w (fun W => Blk W w.heap.size #[.int .i64 (0), .int .i64 (0)] 51 ∧ Below w.heap.size w W) ⟨by first | exact gR | (have := (gR.set 0 (.int .i64 (0))).set 1 (.int .i64 (0)); simpa using this), by (repeat (first | exact Below.refl _ _ | assumption | (refine Below.alloc ?_ (by first | omega | (simp; omega) | (simp; done)) _) | (refine Below.setCell ?_ (by first | omega | (simp; omega) | (simp; done)) _) | (refine Below.drew ?_) | (refine belowN ?_ _) | (refine Below.trans ?_ (Below.mono ‹Below _ _ _› (by first | omega | (simp; omega) | (simp; done))))))⟩ ?_
      rintro W ⟨gW, hW⟩
      have q0 := gW.cell 0; have q1 := gW.cell 1
      simp at q0 q1
      exact bodyPost_ret (v := .tuple #[.agg #[.int .i64 (0), .int .i64 (0)], .int .i64 (2)]) (by simp [results, Try.results37, go_sem, q0, q1]) rfl ⟨by rw [HT.out], hW⟩
  · have HT := Lib.hid (ofR_er (o := o) he)
    have hb : (errW l != 0) = true := by simpa using he
    obtain ⟨ev, hev⟩ : ∃ ev, ev = errW l := ⟨_, rfl⟩
    rw [← hev] at HC hb HT
    have c0 := gR.cell 0; have c1 := gR.cell 1; have f0 := gR.free 0; have f1 := gR.free 1; simp at c0 c1
    clear he hr hr2 hev
    go_enter Try.func37, Try.ntmps37
    go_wp2_with (go_at_call 36; refine HC.out.mono ?_; rintro _ _ ⟨rfl, rfl⟩)
    refine gen_w (fun W => Blk W w.heap.size #[.int .i64 (0), .int .i64 (0)] 51 ∧ Below w.heap.size w W) ⟨by first | exact gR | (have := (gR.set 0 (.int .i64 (0))).set 1 (.int .i64 (0)); simpa using this), by (repeat (first | exact Below.refl _ _ | assumption | (refine Below.alloc ?_ (by first | omega | (simp; omega) | (simp; done)) _) | (refine Below.setCell ?_ (by first | omega | (simp; omega) | (simp; done)) _) | (refine Below.drew ?_) | (refine belowN ?_ _) | (refine Below.trans ?_ (Below.mono ‹Below _ _ _› (by first | omega | (simp; omega) | (simp; done))))))⟩ ?_
    rintro W ⟨gW, hW⟩
    have q0 := gW.cell 0; have q1 := gW.cell 1
    simp at q0 q1
    exact bodyPost_ret (v := .tuple #[.agg #[.int .i64 (0), .int .i64 (0)], .int .i64 (ev)]) (by simp [results, Try.results37, go_sem, q0, q1]) rfl ⟨by rw [HT.out], hW⟩
end Go.Proofs.Ytmfbiohdmhbkoaa

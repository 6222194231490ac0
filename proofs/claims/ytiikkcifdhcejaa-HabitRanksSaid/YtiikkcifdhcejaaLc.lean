/- habit: the law HabitCounts. -/
import Derived.Test.YtiikkcifdhcejaaZ31Wu
namespace Go.Proofs.Ytiikkcifdhcejaa
open Go.RowKit

theorem eq_dropH (a b : List Int) (k : Nat) (h : k < a.length) (h' : k < b.length) : (a.drop k == b.drop k) = (a[k] == b[k] && a.drop (k + 1) == b.drop (k + 1)) := by
  rw [List.drop_eq_getElem_cons h, List.drop_eq_getElem_cons h']; rfl
set_option maxRecDepth 100000 in
set_option maxHeartbeats 1000000 in
theorem lsame_any (A A2 : Option Addr) (c c2 : Nat) (a b : List Int) (w : World) (hl : a.length ≤ 1000000) (hr : Sl intCell 1 w w.heap.size A a) (hr2 : Sl intCell 1 w w.heap.size A2 b) :
    Calls Try.prog 31 #[.slice A a.length c, .slice A2 b.length c2] w fun e w' => e = .returned (.bool (a == b)) ∧ Below w.heap.size w w' := by
  by_cases hlen : a.length = b.length
  · have hd : ((a.length : Int) != (b.length : Int)) = false := by simp [hlen]
    have HR := Lib.hid hr; have HR2 := Lib.hid hr2
    have hn1 : a.length ≤ b.length := by omega
    have hn2 : b.length ≤ a.length := by omega
    clear hr hr2 hlen
    go_enter Try.func31, Try.ntmps31
    go_wp2
    go_loopw [5] (fun i wr => ∃ k : Nat, k ≤ a.length ∧ i = .int .i64 k ∧ Below w.heap.size w wr ∧ Hid ((a == b) = (a.drop k == b.drop k))) (fun i _ => a.length - (intOf i).toNat)
    case atStart => exact ⟨0, by omega, rfl, Below.refl _ _, rfl⟩
    case round =>
      obtain ⟨k, hk, rfl, hb, HA⟩ := hrel
      have hsz := hb.size
      by_cases hlt : k < a.length
      · have hlt2 : k < b.length := by omega
        have HD := Lib.hid (eq_dropH a b k hlt hlt2)
        obtain ⟨ab, ao, rfl, hblk, hcell⟩ := (HR.out.below hb).at_ (k := k) (fun _ => rfl) hlt
        obtain ⟨cb, co, rfl, hblk2, hcell2⟩ := (HR2.out.below hb).at_ (k := k) (fun _ => rfl) hlt2
        obtain ⟨x, hx⟩ : ∃ t, a[k] = t := ⟨_, rfl⟩
        obtain ⟨y, hy⟩ : ∃ t, b[k] = t := ⟨_, rfl⟩
        rw [hx] at hcell HD
        rw [hy] at hcell2 HD
        have c0 : wr.cell? ⟨ab, ao + k, none⟩ = some (.int .i64 x) := by have := hcell 0 _ rfl; simpa using this
        have c1 : wr.cell? ⟨cb, co + k, none⟩ = some (.int .i64 y) := by have := hcell2 0 _ rfl; simpa using this
        have hj0 : (0 : Int) ≤ (k : Int) := by omega
        have hj1 : (k : Int) < (a.length : Int) := by omega
        have hj2 : (k : Int) < (b.length : Int) := by omega
        clear hcell hcell2 hx hy
        by_cases f1 : (x == y) = true
        · have f2 : (x != y) = false := by simp only [beq_iff_eq] at f1; simp [f1]
          have HT : Hid ((a == b) = (a.drop (k + 1) == b.drop (k + 1))) := (by rw [HA.out, HD.out, f1]; rfl : (a == b) = (a.drop (k + 1) == b.drop (k + 1)))
          clear f1
          go_wp2
          (refine wp_region_ext (by kernel_rfl) (by kernel_rfl) ?_; (repeat (go_big_quiet_step((fail)))); with_reducible refine wpQuiet_nil ?_; intro w1 hw1; have hb1 := ext_below hw1; clear hw1)
          go_wp2
          go_roundw
          case rel => exact ⟨k + 1, by omega, by go_num, hb.trans (hb1.mono hsz), HT⟩
          case measure => simp [intOf]; omega
        · simp only [Bool.not_eq_true] at f1
          have f2 : (x != y) = true := by simpa using f1
          have HT : Hid ((a == b) = false) := (by rw [HA.out, HD.out, f1]; rfl : (a == b) = false)
          clear f1
          go_wp2
          (refine wp_region_ext (by kernel_rfl) (by kernel_rfl) ?_; (repeat (go_big_quiet_step((fail)))); with_reducible refine wpQuiet_nil ?_; intro w1 hw1; have hb1 := ext_below hw1; clear hw1)
          go_wp2
          go_ret
          exact ⟨ret_bool HT.out.symm, hb.trans (hb1.mono hsz)⟩
      · have HT : Hid ((a == b) = true) := (by rw [HA.out, List.drop_eq_nil_of_le (by omega : a.length ≤ k), List.drop_eq_nil_of_le (by omega : b.length ≤ k)]; rfl : (a == b) = true)
        go_wp2
        go_ret
        exact ⟨ret_bool HT.out.symm, hb⟩
  · have hd : ((a.length : Int) != (b.length : Int)) = true := by simp; omega
    have HT : Hid ((a == b) = false) := (by simp only [beq_eq_false_iff_ne, ne_eq]; intro h; exact hlen (by rw [h]) : (a == b) = false)
    clear hlen hr hr2
    go_enter Try.func31, Try.ntmps31
    go_wp2
    go_ret
    exact ⟨ret_bool HT.out.symm, Below.refl _ _⟩
theorem ints_of_arr {W W' : World} {b : Nat} {l : List Int} (h : Arr W b l) (hb : Below W.heap.size W W') : Sl intCell 1 W' W'.heap.size (some ⟨b, 0, none⟩) l := (h.sl.below hb).more hb.size
/-- what Tally returns, in general -/
def TalG (l : List Int) (n te : Int) (A1 A2 : Option Addr) (n1 n2 : Nat) (W : World) : Prop :=
  (te ≠ 0 → n1 = 0 ∧ n2 = 0) ∧ (te = 0 → n1 = n.toNat ∧ n2 = n.toNat * n.toNat ∧ Sl intCell 1 W W.heap.size A1 (cntL l n.toNat l.length) ∧ Sl intCell 1 W W.heap.size A2 (parL l n.toNat l.length))
theorem tal_gen {l : List Int} {n : Int} {w : World} {e : Ending} {w' : World} (h : RetTally l n w e w') : ∃ A1 A2 n1 n2, e = .returned (.tuple #[.slice A1 n1 n1, .slice A2 n2 n2, .int .i64 (tallyE l n)]) ∧ TalG l n (tallyE l n) A1 A2 n1 n2 w' ∧ Below w.heap.size w w' := by
  unfold RetTally at h
  by_cases h0 : tallyE l n = 0
  · rw [if_pos h0] at h
    obtain ⟨A, B, rfl, ha, hb, _, _, hw⟩ := h
    exact ⟨_, _, _, _, by rw [h0], ⟨fun h1 => absurd h0 h1, fun _ => ⟨rfl, rfl, ha.sl, hb.sl⟩⟩, hw⟩
  · rw [if_neg h0] at h
    obtain ⟨rfl, hw⟩ := h
    exact ⟨none, none, 0, 0, rfl, ⟨fun _ => ⟨rfl, rfl⟩, fun h1 => absurd h1 h0⟩, hw⟩
def NeedG (l : List Int) (n a ne : Int) (A1 : Option Addr) (n1 : Nat) (W : World) : Prop :=
  (ne ≠ 0 → n1 = 0) ∧ (ne = 0 → n1 = n.toNat ∧ Sl intCell 1 W W.heap.size A1 (needF l n.toNat a.toNat (casts l.length a.toNat)))
theorem need_gen {l : List Int} {n a : Int} {w : World} {e : Ending} {w' : World} (h : RetNeed l n a w e w') : ∃ A1 n1, e = .returned (.tuple #[.slice A1 n1 n1, .int .i64 (needE l n a)]) ∧ NeedG l n a (needE l n a) A1 n1 w' ∧ Below w.heap.size w w' := by
  unfold RetNeed at h
  by_cases h0 : needE l n a = 0
  · rw [if_pos h0] at h
    obtain ⟨A, rfl, ha, _, hw⟩ := h
    exact ⟨_, _, by rw [h0], ⟨fun h1 => absurd h0 h1, fun _ => ⟨rfl, ha.sl⟩⟩, hw⟩
  · rw [if_neg h0] at h
    obtain ⟨rfl, hw⟩ := h
    exact ⟨none, 0, rfl, ⟨fun _ => rfl, fun h1 => absurd h1 h0⟩, hw⟩
def LongG (l : List Int) (s n r e : Nat) : Prop :=
  (400 < l.length → s = 0 ∧ n = 0 ∧ r = 0 ∧ e = 5) ∧ (¬ 400 < l.length → e = 0 ∧ r = runs l l.length ∧ ∀ q m, BestOk (fwd l) l.length q m → n = m ∧ s = q)
theorem long_gen {l : List Int} {w : World} {e : Ending} {w' : World} (h : RetLongest l w e w') : ∃ s n r er : Nat, e = .returned (.tuple #[.int .i64 (s : Int), .int .i64 (n : Int), .int .i64 (r : Int), .int .i64 (er : Int)]) ∧ LongG l s n r er ∧ Below w.heap.size w w' := by
  unfold RetLongest at h
  by_cases h0 : 400 < l.length
  · rw [if_pos h0] at h
    obtain ⟨rfl, hw⟩ := h
    exact ⟨0, 0, 0, 5, rfl, ⟨fun _ => ⟨rfl, rfl, rfl, rfl⟩, fun h1 => absurd h0 h1⟩, hw⟩
  · rw [if_neg h0] at h
    obtain ⟨s, n, ⟨p, h1, h2, h3⟩, rfl, hw⟩ := h
    refine ⟨s, n, runs l l.length, 0, rfl, ⟨fun h1 => absurd h1 h0, fun _ => ⟨rfl, rfl, fun q m hb => ?_⟩⟩, hw⟩
    obtain ⟨e1, e2⟩ := longest_same (show BestOk (fun i => i + 1 - beg l i) l.length p n from h1) hb
    refine ⟨e1, ?_⟩
    rcases Nat.eq_zero_or_pos n with hn | hn
    · rw [h2 hn, hb.zer (by omega)]
    · rw [h3 hn, e2 hn]
theorem eE_same {n : Int} {l : List Int} (hn : n < 1000000000000000) : inE n l = rnumE n l := by
  unfold inE rnumE
  split
  · rfl
  · simp [hn]
theorem tallyE_bad {l : List Int} {n : Int} (h : n < 1 ∨ 32 < n) : tallyE l n = 3 := by unfold tallyE; rw [if_pos h]
theorem tallyE_ok {l : List Int} {n : Int} (h : ¬ (n < 1 ∨ 32 < n)) : tallyE l n = rnumE n l := by unfold tallyE; rw [if_neg h]; exact eE_same (by omega)
theorem needE_bad {l : List Int} {n a : Int} (h : (n < 1 ∨ 32 < n) ∨ (a < 1 ∨ 400 < a)) : needE l n a = 3 := by unfold needE; rw [if_pos (by omega)]
theorem needE_ok {l : List Int} {n a : Int} (h : ¬ (n < 1 ∨ 32 < n)) (h2 : ¬ (a < 1 ∨ 400 < a)) : needE l n a = rnumE n l := by unfold needE; rw [if_neg (by omega)]; exact eE_same (by omega)
theorem rnumE_zero {n : Int} {l : List Int} (h : rnumE n l = 0) : l.length ≤ 400 ∧ ∀ x ∈ l, 0 ≤ x ∧ x < n := by
  unfold rnumE at h
  by_cases h1 : 400 < l.length
  · rw [if_pos h1] at h; cases h
  · rw [if_neg h1] at h
    refine ⟨by omega, fun x hx => ?_⟩
    by_cases h2 : l.any (outB n) = true
    · rw [if_pos h2] at h; cases h
    · rw [List.any_eq_true] at h2
      have h3 : ¬ outB n x = true := fun h4 => h2 ⟨x, hx, h4⟩
      unfold outB at h3
      simp at h3
      omega
theorem rnumE_nn (n : Int) (l : List Int) : rnumE n l = 0 ∨ rnumE n l = 2 ∨ rnumE n l = 5 := by
  unfold rnumE
  split
  · exact .inr (.inr rfl)
  · split
    · exact .inr (.inl rfl)
    · exact .inl rfl
theorem TalG.below {l : List Int} {n te : Int} {A1 A2 : Option Addr} {n1 n2 : Nat} {W W' : World} (h : TalG l n te A1 A2 n1 n2 W) (hb : Below W.heap.size W W') : TalG l n te A1 A2 n1 n2 W' :=
  ⟨h.1, fun h0 => by obtain ⟨h1, h2, h3, h4⟩ := h.2 h0; exact ⟨h1, h2, (h3.below hb).more hb.size, (h4.below hb).more hb.size⟩⟩
theorem NeedG.below {l : List Int} {n a ne : Int} {A1 : Option Addr} {n1 : Nat} {W W' : World} (h : NeedG l n a ne A1 n1 W) (hb : Below W.heap.size W W') : NeedG l n a ne A1 n1 W' :=
  ⟨h.1, fun h0 => by obtain ⟨h1, h2⟩ := h.2 h0; exact ⟨h1, (h2.below hb).more hb.size⟩⟩
theorem lsame_eq (A A2 : Option Addr) (c c2 n m : Nat) (a : List Int) (w : World) (hn : a.length = n) (hm : a.length = m) (hl : a.length ≤ 1000000) (hr : Sl intCell 1 w w.heap.size A a) (hr2 : Sl intCell 1 w w.heap.size A2 a) :
    Calls Try.prog 31 #[.slice A n c, .slice A2 m c2] w fun e w' => e = .returned (.bool true) ∧ Below w.heap.size w w' := by
  subst hn; subst hm
  have := lsame_any A A2 c c2 a a w hl hr hr2
  rwa [beq_self_eq_true] at this
set_option maxRecDepth 100000 in
set_option maxHeartbeats 4000000 in
theorem lwcounts_any (lA : Option Addr) (lc : Nat) (l : List Int) (n a : Int) (w : World) (hl : Sl intCell 1 w w.heap.size lA l) (hlA : lA = none → lc = 0) (hlc : l.length ≤ lc) :
    Calls Try.prog 8 #[.slice lA l.length lc, .int .i64 n, .int .i64 a] w fun e w' => e = .returned (.bool true) ∧ Below w.heap.size w w' := by
  have HL := Lib.hid hl
  have HLN := Lib.hid hlA
  clear hl hlA
  by_cases hbig : 410 < l.length
  · have hd : decide ((410 : Int) < (l.length : Int)) = true := decide_eq_true (by omega)
    have hw : Below w.heap.size w w := Below.refl _ _
    clear hbig
    go_enter Try.func8, Try.ntmps8
    go_wp2_with (first | (go_at_call 12; refine (known_any _).mono ?_; rintro _ w9 ⟨rfl, hb9⟩; have hw := bl2 hw hb9) | fail)
    go_ret
    exact ⟨rfl, hw⟩
  have hd : decide ((410 : Int) < (l.length : Int)) = false := decide_eq_false (by omega)
  have hl6 : l.length ≤ 1000000 := by omega
  go_enter Try.func8, Try.ntmps8
  go_wp2_with (first | (go_at_call 15; refine (lints_any lA lc l.length l w rfl hl6 HLN.out HL.out).mono ?_; rintro _ w1 ⟨B, k, rfl, hs1, hz1, hk1, hown, hw1⟩; refine Hid.out ?_) | fail)
  clear hown hz1
  refine Lib.hid ?_
  go_wp2_with (first | (go_at_call 25; refine (tallyF_any B k l n w1 hl6 hs1).mono ?_; intro e2 w2 h2; obtain ⟨A1, A2, n1, n2, rfl, hT, hb2⟩ := tal_gen h2; refine Hid.out ?_) | fail)
  clear h2
  have hs2 := (hs1.below hb2).more hb2.size
  have hw2 := bl2 hw1 hb2
  obtain ⟨te, hte⟩ : ∃ q, q = tallyE l n := ⟨_, rfl⟩
  rw [← hte] at hT ⊢
  have HTE := Lib.hid hte
  clear hte hs1 hb2 hw1
  refine Lib.hid ?_
  go_wp2_with (first | (go_at_call 29; refine (need_any B k l n a w2 hl6 hk1 hs2).mono ?_; intro e2 w3 h2; obtain ⟨A3, n3, rfl, hN, hb3⟩ := need_gen h2; refine Hid.out ?_) | fail)
  clear h2
  have hs3 := (hs2.below hb3).more hb3.size
  have hw3 := bl2 hw2 hb3
  have hT := hT.below hb3
  obtain ⟨ne, hne⟩ : ∃ q, q = needE l n a := ⟨_, rfl⟩
  rw [← hne] at hN ⊢
  have HNE := Lib.hid hne
  clear hne hs2 hb3 hw2
  refine Lib.hid ?_
  go_wp2_with (first | (go_at_call 30; refine (longestF_any B k l w3 hl6 hs3).mono ?_; intro e2 w4 h2; obtain ⟨ls, ln, lr, le, rfl, hG, hb4⟩ := long_gen h2; refine Hid.out ?_) | fail)
  clear h2
  have hs4 := (hs3.below hb4).more hb4.size
  have hw4 := bl2 hw3 hb4
  have hT := hT.below hb4
  have hN := hN.below hb4
  clear hs3 hb4 hw3
  refine Lib.hid ?_
  go_wp2_with (first | (go_at_call 31; refine (lsame_eq B lA k lc l.length l.length l w4 rfl rfl hl6 hs4 ((HL.out.below hw4).more hw4.size)).mono ?_; rintro _ w5 ⟨rfl, hb5⟩; refine Hid.out ?_) | fail)
  have hw := bl2 hw4 hb5
  have hT := hT.below hb5
  have hN := hN.below hb5
  have HT := Lib.hid hT; have HN := Lib.hid hN
  clear hs4 hb5 hw4 hT hN
  have HRN : Hid (∀ W, Below w.heap.size w W → Calls Try.prog 33 #[.slice lA l.length lc, .int .i64 n] W fun e w' => e = .returned (.int .i64 (rnumE n l)) ∧ Below W.heap.size W w') := Lib.hid fun W hW => rnum_any lA lc l n W hl6 ((HL.out.below hW).more hW.size)
  have HRL : Hid (∀ W, Below w.heap.size w W → Calls Try.prog 32 #[.slice lA l.length lc] W (RetLong l W)) := Lib.hid fun W hW => rlongest_any lA lc l W hl6 ((HL.out.below hW).more hW.size)
  refine Lib.hid ?_
  by_cases h400 : 400 < l.length
  · have d4 : decide ((400 : Int) < (l.length : Int)) = true := decide_eq_true (by omega)
    obtain ⟨rfl, rfl, rfl, rfl⟩ := hG.1 h400
    clear hG h400
    go_upto_region 15 with fail
    by_cases hn : n < 1 ∨ 32 < n
    · obtain rfl : te = 3 := by rw [HTE.out]; exact tallyE_bad hn
      obtain rfl : ne = 3 := by rw [HNE.out]; exact needE_bad (.inl hn)
      obtain ⟨z1, z2⟩ := HT.out.1 (by decide)
      have z3 := HN.out.1 (by decide)
      clear HT HN
      subst z1
      subst z2
      subst z3
      by_cases h1 : n < 1
      · have q1 : decide (n < 1) = true := decide_eq_true h1
        clear hn
        go_wp2_with (first | (go_at_call 12; refine (known_any _).mono ?_; rintro _ w9 ⟨rfl, hb9⟩; have hw := bl2 hw hb9) | fail)
        go_ret
        exact ⟨rfl, hw⟩
      · have q1 : decide (n < 1) = false := decide_eq_false h1
        have q2 : decide (32 < n) = true := decide_eq_true (by omega)
        clear hn
        go_wp2_with (first | (go_at_call 12; refine (known_any _).mono ?_; rintro _ w9 ⟨rfl, hb9⟩; have hw := bl2 hw hb9) | fail)
        go_ret
        exact ⟨rfl, hw⟩
    · have q1 : decide (n < 1) = false := decide_eq_false (by omega)
      have q2 : decide (32 < n) = false := decide_eq_false (by omega)
      have HTE2 : Hid (te = rnumE n l) := (by show _ = _; rw [HTE.out]; exact tallyE_ok hn : _)
      have HNO := Lib.hid (fun h => needE_ok (l := l) (a := a) hn h)
      obtain ⟨N, rfl⟩ : ∃ N : Nat, n = (N : Int) := ⟨n.toNat, by omega⟩
      obtain ⟨er, her⟩ : ∃ e, e = rnumE (N : Int) l := ⟨_, rfl⟩
      rw [← her] at HRN HTE2 HNO
      have HER := Lib.hid her
      clear her
      obtain rfl : te = er := HTE2.out
      go_wp2_with (first | (go_at_call 33; refine (HRN.out _ hw).mono ?_; rintro _ w7 ⟨rfl, hb7⟩; refine Hid.out ?_) | fail)
      have HT := Lib.hid (HT.out.below hb7)
      have HN := Lib.hid (HN.out.below hb7)
      have hw := bl2 hw hb7
      clear hb7 HTE2
      refine Lib.hid ?_
      by_cases ha : a < 1 ∨ 400 < a
      · obtain rfl : ne = 3 := by rw [HNE.out]; exact needE_bad (.inr ha)
        have z3 := HN.out.1 (by decide)
        subst z3
        clear HNE HN
        have HA : Hid (a < 1 ∨ 400 < a) := ha
        clear ha
        rcases Int.lt_or_le a 1 with h1 | h1
        · have q3 : decide (a < 1) = true := decide_eq_true h1
          by_cases he : te = 0
          · subst he
            obtain ⟨hl4, hreg⟩ := rnumE_zero HER.out.symm
            have HTL : Hid (∀ W, Below w.heap.size w W → Calls Try.prog 35 #[.slice lA l.length lc, .int .i64 (N : Int)] W (RetTwo l N W)) := Lib.hid fun W hW => rtally_any lA lc l N W (by omega) hl6 hreg ((HL.out.below hW).more hW.size)
            clear hreg hl4
            obtain ⟨z1, z2, z3, z4⟩ := HT.out.2 rfl
            have Z1 := Lib.hid z1; have Z2 := Lib.hid z2; have Z3 := Lib.hid z3; have Z4 := Lib.hid z4
            clear z1 z2 z3 z4 HT
            go_wp2_with (first | (go_at_call 35; refine (HTL.out _ hw).mono ?_; rintro _ w8 ⟨u, v, rfl, hu, hv, hu0, hv0, hb8⟩; refine Hid.out ?_) | fail)
            have hwb := bl2 hw hb8
            have y1 := (Z3.out.below hb8).more hb8.size
            have y2 := (Z4.out.below hb8).more hb8.size
            have x1 := hu.sl
            have x2 := hv.sl
            have hw := hwb
            rw [Int.toNat_natCast] at y1 y2
            clear hb8 hu0 hv0 hu hv hwb
            have S1 := Lib.hid (fun W (hW : Below w8.heap.size w8 W) => lsame_eq A1 (some ⟨u, 0, none⟩) n1 N n1 N _ W (by rw [cntL_len, Z1.out, Int.toNat_natCast]) (cntL_len _ _ _) (by rw [cntL_len]; omega) ((y1.below hW).more hW.size) ((x1.below hW).more hW.size))
            have S2 := Lib.hid (fun W (hW : Below w8.heap.size w8 W) => lsame_eq A2 (some ⟨v, 0, none⟩) n2 (N * N) n2 (N * N) _ W (by rw [parL_len, Z2.out, Int.toNat_natCast]) (parL_len _ _ _) (by rw [parL_len]; exact Nat.le_trans (Nat.mul_le_mul (show N ≤ 32 by omega) (show N ≤ 32 by omega)) (by decide)) ((y2.below hW).more hW.size) ((x2.below hW).more hW.size))
            clear y1 y2 x1 x2
            have hz8 := Below.refl w8.heap.size w8
            refine Lib.hid ?_
            go_wp2_with (first | (go_at_call 31; (with_reducible refine (S2.out _ hz8).mono ?_); rintro _ w9 ⟨rfl, hb9⟩; have hw := bl2 hw hb9; have hz8 := bl2 hz8 hb9) | (go_at_call 31; (with_reducible refine (S1.out _ hz8).mono ?_); rintro _ w9 ⟨rfl, hb9⟩; have hw := bl2 hw hb9; have hz8 := bl2 hz8 hb9) | (go_at_call 12; refine (known_any _).mono ?_; rintro _ w9 ⟨rfl, hb9⟩; have hw := bl2 hw hb9) | fail)
            go_ret
            exact ⟨rfl, hw⟩
          · have q5 : (te != 0) = true := by simp; exact he
            have q6 : (te == 0) = false := by simp; exact he
            obtain ⟨z1, z2⟩ := HT.out.1 he
            clear HT
            subst z1
            subst z2
            go_wp2_with (first | (go_at_call 12; refine (known_any _).mono ?_; rintro _ w9 ⟨rfl, hb9⟩; have hw := bl2 hw hb9) | fail)
            go_ret
            exact ⟨rfl, hw⟩
        · have q3 : decide (a < 1) = false := decide_eq_false (by omega)
          have q4 : decide (400 < a) = true := decide_eq_true (by have := HA.out; omega)
          by_cases he : te = 0
          · subst he
            obtain ⟨hl4, hreg⟩ := rnumE_zero HER.out.symm
            have HTL : Hid (∀ W, Below w.heap.size w W → Calls Try.prog 35 #[.slice lA l.length lc, .int .i64 (N : Int)] W (RetTwo l N W)) := Lib.hid fun W hW => rtally_any lA lc l N W (by omega) hl6 hreg ((HL.out.below hW).more hW.size)
            clear hreg hl4
            obtain ⟨z1, z2, z3, z4⟩ := HT.out.2 rfl
            have Z1 := Lib.hid z1; have Z2 := Lib.hid z2; have Z3 := Lib.hid z3; have Z4 := Lib.hid z4
            clear z1 z2 z3 z4 HT
            go_wp2_with (first | (go_at_call 35; refine (HTL.out _ hw).mono ?_; rintro _ w8 ⟨u, v, rfl, hu, hv, hu0, hv0, hb8⟩; refine Hid.out ?_) | fail)
            have hwb := bl2 hw hb8
            have y1 := (Z3.out.below hb8).more hb8.size
            have y2 := (Z4.out.below hb8).more hb8.size
            have x1 := hu.sl
            have x2 := hv.sl
            have hw := hwb
            rw [Int.toNat_natCast] at y1 y2
            clear hb8 hu0 hv0 hu hv hwb
            have S1 := Lib.hid (fun W (hW : Below w8.heap.size w8 W) => lsame_eq A1 (some ⟨u, 0, none⟩) n1 N n1 N _ W (by rw [cntL_len, Z1.out, Int.toNat_natCast]) (cntL_len _ _ _) (by rw [cntL_len]; omega) ((y1.below hW).more hW.size) ((x1.below hW).more hW.size))
            have S2 := Lib.hid (fun W (hW : Below w8.heap.size w8 W) => lsame_eq A2 (some ⟨v, 0, none⟩) n2 (N * N) n2 (N * N) _ W (by rw [parL_len, Z2.out, Int.toNat_natCast]) (parL_len _ _ _) (by rw [parL_len]; exact Nat.le_trans (Nat.mul_le_mul (show N ≤ 32 by omega) (show N ≤ 32 by omega)) (by decide)) ((y2.below hW).more hW.size) ((x2.below hW).more hW.size))
            clear y1 y2 x1 x2
            have hz8 := Below.refl w8.heap.size w8
            refine Lib.hid ?_
            go_wp2_with (first | (go_at_call 31; (with_reducible refine (S2.out _ hz8).mono ?_); rintro _ w9 ⟨rfl, hb9⟩; have hw := bl2 hw hb9; have hz8 := bl2 hz8 hb9) | (go_at_call 31; (with_reducible refine (S1.out _ hz8).mono ?_); rintro _ w9 ⟨rfl, hb9⟩; have hw := bl2 hw hb9; have hz8 := bl2 hz8 hb9) | (go_at_call 12; refine (known_any _).mono ?_; rintro _ w9 ⟨rfl, hb9⟩; have hw := bl2 hw hb9) | fail)
            go_ret
            exact ⟨rfl, hw⟩
          · have q5 : (te != 0) = true := by simp; exact he
            have q6 : (te == 0) = false := by simp; exact he
            obtain ⟨z1, z2⟩ := HT.out.1 he
            clear HT
            subst z1
            subst z2
            go_wp2_with (first | (go_at_call 12; refine (known_any _).mono ?_; rintro _ w9 ⟨rfl, hb9⟩; have hw := bl2 hw hb9) | fail)
            go_ret
            exact ⟨rfl, hw⟩
      · have q3 : decide (a < 1) = false := decide_eq_false (by omega)
        have q4 : decide (400 < a) = false := decide_eq_false (by omega)
        obtain rfl : ne = te := by rw [HNE.out]; exact HNO.out ha
        clear HNE HNO HTE
        by_cases he : ne = 0
        · subst he
          obtain ⟨hl4, hreg⟩ := rnumE_zero HER.out.symm
          obtain ⟨a9, rfl⟩ : ∃ N : Nat, a = (N : Int) := ⟨a.toNat, by omega⟩
          have HTL : Hid (∀ W, Below w.heap.size w W → Calls Try.prog 35 #[.slice lA l.length lc, .int .i64 (N : Int)] W (RetTwo l N W)) := Lib.hid fun W hW => rtally_any lA lc l N W (by omega) hl6 hreg ((HL.out.below hW).more hW.size)
          have HND := Lib.hid fun W (hW : Below w.heap.size w W) => rneed_any lA lc l N a9 W (by omega) (by omega) (by omega) hl4 hlc hreg ((HL.out.below hW).more hW.size)
          obtain ⟨z1, z2⟩ := HN.out.2 rfl
          have Z1 := Lib.hid z1
          have Z2 := Lib.hid z2
          clear z1 z2 HN hreg hl4 ha
          go_wp2_with (first | (go_at_call 34; refine (HND.out _ hw).mono ?_; rintro _ w8 ⟨nb, rfl, hA, hnb, hb8⟩; refine Hid.out ?_) | fail)
          have hwb := bl2 hw hb8
          have HT := Lib.hid (HT.out.below hb8)
          have y1 := (Z2.out.below hb8).more hb8.size
          rw [Int.toNat_natCast, Int.toNat_natCast] at y1
          have S1 := Lib.hid (lsame_eq A3 (some ⟨nb, 0, none⟩) n3 N n3 N _ w8 (by rw [needF_len, Z1.out, Int.toNat_natCast]) (needF_len _ _ _ _) (by rw [needF_len]; omega) y1 hA.sl)
          have hw := hwb
          clear hwb hb8 y1 hA hnb Z1 Z2
          refine Lib.hid ?_
          go_wp2_with (first | (go_at_call 31; refine S1.out.mono ?_; rintro _ w9 ⟨rfl, hb9⟩; refine Hid.out ?_) | fail)
          have HT := Lib.hid (HT.out.below hb9)
          have hw := bl2 hw hb9
          clear S1 hb9
          refine Lib.hid ?_
          obtain ⟨z1, z2, z3, z4⟩ := HT.out.2 rfl
          have Z1 := Lib.hid z1; have Z2 := Lib.hid z2; have Z3 := Lib.hid z3; have Z4 := Lib.hid z4
          clear z1 z2 z3 z4 HT
          go_wp2_with (first | (go_at_call 35; refine (HTL.out _ hw).mono ?_; rintro _ w8 ⟨u, v, rfl, hu, hv, hu0, hv0, hb8⟩; refine Hid.out ?_) | fail)
          have hwb := bl2 hw hb8
          have y1 := (Z3.out.below hb8).more hb8.size
          have y2 := (Z4.out.below hb8).more hb8.size
          have x1 := hu.sl
          have x2 := hv.sl
          have hw := hwb
          rw [Int.toNat_natCast] at y1 y2
          clear hb8 hu0 hv0 hu hv hwb
          have S1 := Lib.hid (fun W (hW : Below w8.heap.size w8 W) => lsame_eq A1 (some ⟨u, 0, none⟩) n1 N n1 N _ W (by rw [cntL_len, Z1.out, Int.toNat_natCast]) (cntL_len _ _ _) (by rw [cntL_len]; omega) ((y1.below hW).more hW.size) ((x1.below hW).more hW.size))
          have S2 := Lib.hid (fun W (hW : Below w8.heap.size w8 W) => lsame_eq A2 (some ⟨v, 0, none⟩) n2 (N * N) n2 (N * N) _ W (by rw [parL_len, Z2.out, Int.toNat_natCast]) (parL_len _ _ _) (by rw [parL_len]; exact Nat.le_trans (Nat.mul_le_mul (show N ≤ 32 by omega) (show N ≤ 32 by omega)) (by decide)) ((y2.below hW).more hW.size) ((x2.below hW).more hW.size))
          clear y1 y2 x1 x2
          have hz8 := Below.refl w8.heap.size w8
          refine Lib.hid ?_
          go_wp2_with (first | (go_at_call 31; (with_reducible refine (S2.out _ hz8).mono ?_); rintro _ w9 ⟨rfl, hb9⟩; have hw := bl2 hw hb9; have hz8 := bl2 hz8 hb9) | (go_at_call 31; (with_reducible refine (S1.out _ hz8).mono ?_); rintro _ w9 ⟨rfl, hb9⟩; have hw := bl2 hw hb9; have hz8 := bl2 hz8 hb9) | (go_at_call 12; refine (known_any _).mono ?_; rintro _ w9 ⟨rfl, hb9⟩; have hw := bl2 hw hb9) | fail)
          go_ret
          exact ⟨rfl, hw⟩
        · have z3 := HN.out.1 he
          subst z3
          have q5 : (ne != 0) = true := by simp; exact he
          have q6 : (ne == 0) = false := by simp; exact he
          clear HN
          obtain ⟨z1, z2⟩ := HT.out.1 he
          clear HT
          subst z1
          subst z2
          go_wp2_with (first | (go_at_call 12; refine (known_any _).mono ?_; rintro _ w9 ⟨rfl, hb9⟩; have hw := bl2 hw hb9) | fail)
          go_ret
          exact ⟨rfl, hw⟩
  · have d4 : decide ((400 : Int) < (l.length : Int)) = false := decide_eq_false (by omega)
    obtain ⟨rfl, rfl, hLL⟩ := hG.2 h400
    have HLL := Lib.hid hLL
    clear hG h400 hLL
    go_wp2_with (first | (go_at_call 32; refine (HRL.out _ hw).mono ?_; rintro _ w6 ⟨q, m, hB, rfl, hb6⟩; refine Hid.out ?_) | fail)
    obtain ⟨rfl, rfl⟩ := HLL.out q m hB
    have HT := Lib.hid (HT.out.below hb6)
    have HN := Lib.hid (HN.out.below hb6)
    have hw := bl2 hw hb6
    clear hB HLL hb6
    obtain ⟨lr, hlr⟩ : ∃ r, r = runs l l.length := ⟨_, rfl⟩
    rw [← hlr]
    clear hlr
    refine Lib.hid ?_
    go_upto_region 15 with fail
    by_cases hn : n < 1 ∨ 32 < n
    · obtain rfl : te = 3 := by rw [HTE.out]; exact tallyE_bad hn
      obtain rfl : ne = 3 := by rw [HNE.out]; exact needE_bad (.inl hn)
      obtain ⟨z1, z2⟩ := HT.out.1 (by decide)
      have z3 := HN.out.1 (by decide)
      clear HT HN
      subst z1
      subst z2
      subst z3
      by_cases h1 : n < 1
      · have q1 : decide (n < 1) = true := decide_eq_true h1
        clear hn
        go_wp2_with (first | (go_at_call 12; refine (known_any _).mono ?_; rintro _ w9 ⟨rfl, hb9⟩; have hw := bl2 hw hb9) | fail)
        go_ret
        exact ⟨rfl, hw⟩
      · have q1 : decide (n < 1) = false := decide_eq_false h1
        have q2 : decide (32 < n) = true := decide_eq_true (by omega)
        clear hn
        go_wp2_with (first | (go_at_call 12; refine (known_any _).mono ?_; rintro _ w9 ⟨rfl, hb9⟩; have hw := bl2 hw hb9) | fail)
        go_ret
        exact ⟨rfl, hw⟩
    · have q1 : decide (n < 1) = false := decide_eq_false (by omega)
      have q2 : decide (32 < n) = false := decide_eq_false (by omega)
      have HTE2 : Hid (te = rnumE n l) := (by show _ = _; rw [HTE.out]; exact tallyE_ok hn : _)
      have HNO := Lib.hid (fun h => needE_ok (l := l) (a := a) hn h)
      obtain ⟨N, rfl⟩ : ∃ N : Nat, n = (N : Int) := ⟨n.toNat, by omega⟩
      obtain ⟨er, her⟩ : ∃ e, e = rnumE (N : Int) l := ⟨_, rfl⟩
      rw [← her] at HRN HTE2 HNO
      have HER := Lib.hid her
      clear her
      obtain rfl : te = er := HTE2.out
      go_wp2_with (first | (go_at_call 33; refine (HRN.out _ hw).mono ?_; rintro _ w7 ⟨rfl, hb7⟩; refine Hid.out ?_) | fail)
      have HT := Lib.hid (HT.out.below hb7)
      have HN := Lib.hid (HN.out.below hb7)
      have hw := bl2 hw hb7
      clear hb7 HTE2
      refine Lib.hid ?_
      by_cases ha : a < 1 ∨ 400 < a
      · obtain rfl : ne = 3 := by rw [HNE.out]; exact needE_bad (.inr ha)
        have z3 := HN.out.1 (by decide)
        subst z3
        clear HNE HN
        have HA : Hid (a < 1 ∨ 400 < a) := ha
        clear ha
        rcases Int.lt_or_le a 1 with h1 | h1
        · have q3 : decide (a < 1) = true := decide_eq_true h1
          by_cases he : te = 0
          · subst he
            obtain ⟨hl4, hreg⟩ := rnumE_zero HER.out.symm
            have HTL : Hid (∀ W, Below w.heap.size w W → Calls Try.prog 35 #[.slice lA l.length lc, .int .i64 (N : Int)] W (RetTwo l N W)) := Lib.hid fun W hW => rtally_any lA lc l N W (by omega) hl6 hreg ((HL.out.below hW).more hW.size)
            clear hreg hl4
            obtain ⟨z1, z2, z3, z4⟩ := HT.out.2 rfl
            have Z1 := Lib.hid z1; have Z2 := Lib.hid z2; have Z3 := Lib.hid z3; have Z4 := Lib.hid z4
            clear z1 z2 z3 z4 HT
            go_wp2_with (first | (go_at_call 35; refine (HTL.out _ hw).mono ?_; rintro _ w8 ⟨u, v, rfl, hu, hv, hu0, hv0, hb8⟩; refine Hid.out ?_) | fail)
            have hwb := bl2 hw hb8
            have y1 := (Z3.out.below hb8).more hb8.size
            have y2 := (Z4.out.below hb8).more hb8.size
            have x1 := hu.sl
            have x2 := hv.sl
            have hw := hwb
            rw [Int.toNat_natCast] at y1 y2
            clear hb8 hu0 hv0 hu hv hwb
            have S1 := Lib.hid (fun W (hW : Below w8.heap.size w8 W) => lsame_eq A1 (some ⟨u, 0, none⟩) n1 N n1 N _ W (by rw [cntL_len, Z1.out, Int.toNat_natCast]) (cntL_len _ _ _) (by rw [cntL_len]; omega) ((y1.below hW).more hW.size) ((x1.below hW).more hW.size))
            have S2 := Lib.hid (fun W (hW : Below w8.heap.size w8 W) => lsame_eq A2 (some ⟨v, 0, none⟩) n2 (N * N) n2 (N * N) _ W (by rw [parL_len, Z2.out, Int.toNat_natCast]) (parL_len _ _ _) (by rw [parL_len]; exact Nat.le_trans (Nat.mul_le_mul (show N ≤ 32 by omega) (show N ≤ 32 by omega)) (by decide)) ((y2.below hW).more hW.size) ((x2.below hW).more hW.size))
            clear y1 y2 x1 x2
            have hz8 := Below.refl w8.heap.size w8
            refine Lib.hid ?_
            go_wp2_with (first | (go_at_call 31; (with_reducible refine (S2.out _ hz8).mono ?_); rintro _ w9 ⟨rfl, hb9⟩; have hw := bl2 hw hb9; have hz8 := bl2 hz8 hb9) | (go_at_call 31; (with_reducible refine (S1.out _ hz8).mono ?_); rintro _ w9 ⟨rfl, hb9⟩; have hw := bl2 hw hb9; have hz8 := bl2 hz8 hb9) | (go_at_call 12; refine (known_any _).mono ?_; rintro _ w9 ⟨rfl, hb9⟩; have hw := bl2 hw hb9) | fail)
            go_ret
            exact ⟨rfl, hw⟩
          · have q5 : (te != 0) = true := by simp; exact he
            have q6 : (te == 0) = false := by simp; exact he
            obtain ⟨z1, z2⟩ := HT.out.1 he
            clear HT
            subst z1
            subst z2
            go_wp2_with (first | (go_at_call 12; refine (known_any _).mono ?_; rintro _ w9 ⟨rfl, hb9⟩; have hw := bl2 hw hb9) | fail)
            go_ret
            exact ⟨rfl, hw⟩
        · have q3 : decide (a < 1) = false := decide_eq_false (by omega)
          have q4 : decide (400 < a) = true := decide_eq_true (by have := HA.out; omega)
          by_cases he : te = 0
          · subst he
            obtain ⟨hl4, hreg⟩ := rnumE_zero HER.out.symm
            have HTL : Hid (∀ W, Below w.heap.size w W → Calls Try.prog 35 #[.slice lA l.length lc, .int .i64 (N : Int)] W (RetTwo l N W)) := Lib.hid fun W hW => rtally_any lA lc l N W (by omega) hl6 hreg ((HL.out.below hW).more hW.size)
            clear hreg hl4
            obtain ⟨z1, z2, z3, z4⟩ := HT.out.2 rfl
            have Z1 := Lib.hid z1; have Z2 := Lib.hid z2; have Z3 := Lib.hid z3; have Z4 := Lib.hid z4
            clear z1 z2 z3 z4 HT
            go_wp2_with (first | (go_at_call 35; refine (HTL.out _ hw).mono ?_; rintro _ w8 ⟨u, v, rfl, hu, hv, hu0, hv0, hb8⟩; refine Hid.out ?_) | fail)
            have hwb := bl2 hw hb8
            have y1 := (Z3.out.below hb8).more hb8.size
            have y2 := (Z4.out.below hb8).more hb8.size
            have x1 := hu.sl
            have x2 := hv.sl
            have hw := hwb
            rw [Int.toNat_natCast] at y1 y2
            clear hb8 hu0 hv0 hu hv hwb
            have S1 := Lib.hid (fun W (hW : Below w8.heap.size w8 W) => lsame_eq A1 (some ⟨u, 0, none⟩) n1 N n1 N _ W (by rw [cntL_len, Z1.out, Int.toNat_natCast]) (cntL_len _ _ _) (by rw [cntL_len]; omega) ((y1.below hW).more hW.size) ((x1.below hW).more hW.size))
            have S2 := Lib.hid (fun W (hW : Below w8.heap.size w8 W) => lsame_eq A2 (some ⟨v, 0, none⟩) n2 (N * N) n2 (N * N) _ W (by rw [parL_len, Z2.out, Int.toNat_natCast]) (parL_len _ _ _) (by rw [parL_len]; exact Nat.le_trans (Nat.mul_le_mul (show N ≤ 32 by omega) (show N ≤ 32 by omega)) (by decide)) ((y2.below hW).more hW.size) ((x2.below hW).more hW.size))
            clear y1 y2 x1 x2
            have hz8 := Below.refl w8.heap.size w8
            refine Lib.hid ?_
            go_wp2_with (first | (go_at_call 31; (with_reducible refine (S2.out _ hz8).mono ?_); rintro _ w9 ⟨rfl, hb9⟩; have hw := bl2 hw hb9; have hz8 := bl2 hz8 hb9) | (go_at_call 31; (with_reducible refine (S1.out _ hz8).mono ?_); rintro _ w9 ⟨rfl, hb9⟩; have hw := bl2 hw hb9; have hz8 := bl2 hz8 hb9) | (go_at_call 12; refine (known_any _).mono ?_; rintro _ w9 ⟨rfl, hb9⟩; have hw := bl2 hw hb9) | fail)
            go_ret
            exact ⟨rfl, hw⟩
          · have q5 : (te != 0) = true := by simp; exact he
            have q6 : (te == 0) = false := by simp; exact he
            obtain ⟨z1, z2⟩ := HT.out.1 he
            clear HT
            subst z1
            subst z2
            go_wp2_with (first | (go_at_call 12; refine (known_any _).mono ?_; rintro _ w9 ⟨rfl, hb9⟩; have hw := bl2 hw hb9) | fail)
            go_ret
            exact ⟨rfl, hw⟩
      · have q3 : decide (a < 1) = false := decide_eq_false (by omega)
        have q4 : decide (400 < a) = false := decide_eq_false (by omega)
        obtain rfl : ne = te := by rw [HNE.out]; exact HNO.out ha
        clear HNE HNO HTE
        by_cases he : ne = 0
        · subst he
          obtain ⟨hl4, hreg⟩ := rnumE_zero HER.out.symm
          obtain ⟨a9, rfl⟩ : ∃ N : Nat, a = (N : Int) := ⟨a.toNat, by omega⟩
          have HTL : Hid (∀ W, Below w.heap.size w W → Calls Try.prog 35 #[.slice lA l.length lc, .int .i64 (N : Int)] W (RetTwo l N W)) := Lib.hid fun W hW => rtally_any lA lc l N W (by omega) hl6 hreg ((HL.out.below hW).more hW.size)
          have HND := Lib.hid fun W (hW : Below w.heap.size w W) => rneed_any lA lc l N a9 W (by omega) (by omega) (by omega) hl4 hlc hreg ((HL.out.below hW).more hW.size)
          obtain ⟨z1, z2⟩ := HN.out.2 rfl
          have Z1 := Lib.hid z1
          have Z2 := Lib.hid z2
          clear z1 z2 HN hreg hl4 ha
          go_wp2_with (first | (go_at_call 34; refine (HND.out _ hw).mono ?_; rintro _ w8 ⟨nb, rfl, hA, hnb, hb8⟩; refine Hid.out ?_) | fail)
          have hwb := bl2 hw hb8
          have HT := Lib.hid (HT.out.below hb8)
          have y1 := (Z2.out.below hb8).more hb8.size
          rw [Int.toNat_natCast, Int.toNat_natCast] at y1
          have S1 := Lib.hid (lsame_eq A3 (some ⟨nb, 0, none⟩) n3 N n3 N _ w8 (by rw [needF_len, Z1.out, Int.toNat_natCast]) (needF_len _ _ _ _) (by rw [needF_len]; omega) y1 hA.sl)
          have hw := hwb
          clear hwb hb8 y1 hA hnb Z1 Z2
          refine Lib.hid ?_
          go_wp2_with (first | (go_at_call 31; refine S1.out.mono ?_; rintro _ w9 ⟨rfl, hb9⟩; refine Hid.out ?_) | fail)
          have HT := Lib.hid (HT.out.below hb9)
          have hw := bl2 hw hb9
          clear S1 hb9
          refine Lib.hid ?_
          obtain ⟨z1, z2, z3, z4⟩ := HT.out.2 rfl
          have Z1 := Lib.hid z1; have Z2 := Lib.hid z2; have Z3 := Lib.hid z3; have Z4 := Lib.hid z4
          clear z1 z2 z3 z4 HT
          go_wp2_with (first | (go_at_call 35; refine (HTL.out _ hw).mono ?_; rintro _ w8 ⟨u, v, rfl, hu, hv, hu0, hv0, hb8⟩; refine Hid.out ?_) | fail)
          have hwb := bl2 hw hb8
          have y1 := (Z3.out.below hb8).more hb8.size
          have y2 := (Z4.out.below hb8).more hb8.size
          have x1 := hu.sl
          have x2 := hv.sl
          have hw := hwb
          rw [Int.toNat_natCast] at y1 y2
          clear hb8 hu0 hv0 hu hv hwb
          have S1 := Lib.hid (fun W (hW : Below w8.heap.size w8 W) => lsame_eq A1 (some ⟨u, 0, none⟩) n1 N n1 N _ W (by rw [cntL_len, Z1.out, Int.toNat_natCast]) (cntL_len _ _ _) (by rw [cntL_len]; omega) ((y1.below hW).more hW.size) ((x1.below hW).more hW.size))
          have S2 := Lib.hid (fun W (hW : Below w8.heap.size w8 W) => lsame_eq A2 (some ⟨v, 0, none⟩) n2 (N * N) n2 (N * N) _ W (by rw [parL_len, Z2.out, Int.toNat_natCast]) (parL_len _ _ _) (by rw [parL_len]; exact Nat.le_trans (Nat.mul_le_mul (show N ≤ 32 by omega) (show N ≤ 32 by omega)) (by decide)) ((y2.below hW).more hW.size) ((x2.below hW).more hW.size))
          clear y1 y2 x1 x2
          have hz8 := Below.refl w8.heap.size w8
          refine Lib.hid ?_
          go_wp2_with (first | (go_at_call 31; (with_reducible refine (S2.out _ hz8).mono ?_); rintro _ w9 ⟨rfl, hb9⟩; have hw := bl2 hw hb9; have hz8 := bl2 hz8 hb9) | (go_at_call 31; (with_reducible refine (S1.out _ hz8).mono ?_); rintro _ w9 ⟨rfl, hb9⟩; have hw := bl2 hw hb9; have hz8 := bl2 hz8 hb9) | (go_at_call 12; refine (known_any _).mono ?_; rintro _ w9 ⟨rfl, hb9⟩; have hw := bl2 hw hb9) | fail)
          go_ret
          exact ⟨rfl, hw⟩
        · have z3 := HN.out.1 he
          subst z3
          have q5 : (ne != 0) = true := by simp; exact he
          have q6 : (ne == 0) = false := by simp; exact he
          clear HN
          obtain ⟨z1, z2⟩ := HT.out.1 he
          clear HT
          subst z1
          subst z2
          go_wp2_with (first | (go_at_call 12; refine (known_any _).mono ?_; rintro _ w9 ⟨rfl, hb9⟩; have hw := bl2 hw hb9) | fail)
          go_ret
          exact ⟨rfl, hw⟩
end Go.Proofs.Ytiikkcifdhcejaa

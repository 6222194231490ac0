/- habit, references: Total, Divisor, row, Outcomes, Model. -/
import Derived.Test.YtiikkcifdhcejaaZ06Pg
namespace Go.Proofs.Ytiikkcifdhcejaa
open Go.RowKit

set_option maxHeartbeats 1000000 in
theorem utotal_any (A : Option Addr) (c : Nat) (l : List Int) (w : World) (hm : l.length ≤ 1000000000) (hn : ∀ x ∈ l, 0 ≤ x) (hs : sumL l ≤ 4000000000000000000) (hr : Sl intCell 1 w w.heap.size A l) :
    Calls Try.prog 77 #[.slice A l.length c] w fun e w' => e = .returned (.int .i64 (sumL l)) ∧ w = w' := by
  have HR := Lib.hid hr; have HN := Lib.hid hn
  clear hr hn
  go_enter Try.func77, Try.ntmps77
  go_wp2
  go_loop [3, 4] (fun v i => ∃ k : Nat, k ≤ l.length ∧ i = .int .i64 k ∧ v = .int .i64 (sumL (l.take k))) (fun _ i => l.length - (intOf i).toNat)
  case atStart => exact ⟨0, by omega, rfl, rfl⟩
  case round =>
    obtain ⟨k, hk, rfl, rfl⟩ := hrel
    by_cases hlt : k < l.length
    · obtain ⟨b, o, rfl, hb, hc⟩ := HR.out.int_at hlt
      have HS := Lib.hid (sumL_take l k hlt)
      have y0 := HN.out _ (List.getElem_mem hlt)
      obtain ⟨z0, z1⟩ := sumL_take_le HN.out k
      obtain ⟨z2, z3⟩ := sumL_take_le HN.out (k + 1)
      rw [HS.out] at z2 z3
      obtain ⟨s, hs'⟩ : ∃ s, s = sumL (l.take k) := ⟨_, rfl⟩
      obtain ⟨x, hx⟩ : ∃ x, x = l[k] := ⟨_, rfl⟩
      rw [← hs'] at z0 z1 z2 z3 HS ⊢
      rw [← hx] at hc HS y0 z2 z3
      clear hs' hx
      go_wp2
      go_round
      case rel => exact ⟨k + 1, by omega, by go_num, by rw [HS.out]⟩
      case measure => simp [intOf]; omega
    · obtain rfl : k = l.length := by omega
      have e := take_all_int l
      rw [e]; clear e
      go_wp2
      go_ret
      exact ⟨rfl, rfl⟩
set_option maxHeartbeats 1000000 in
theorem udiv_any (a b : Int) (w : World) (ha : 0 ≤ a) (hb : 0 ≤ b) (ha' : a ≤ 4000000000000000000) (hb' : b ≤ 4000000000000000000) :
    Calls Try.prog 50 #[.int .i64 a, .int .i64 b] w fun e w' => e = .returned (.int .i64 (gI a b)) ∧ Below w.heap.size w w' := by
  go_enter Try.func50, Try.ntmps50
  go_wp2
  go_loopw [0, 1] (fun v b' wr => ∃ p q : Int, 0 ≤ p ∧ 0 ≤ q ∧ p ≤ 4000000000000000000 ∧ q ≤ 4000000000000000000 ∧ v = .int .i64 p ∧ b' = .int .i64 q ∧ Hid (gI p q = gI a b) ∧ Below w.heap.size w wr) (fun _ b' _ => (intOf b').toNat)
  case atStart => exact ⟨a, b, ha, hb, ha', hb', rfl, rfl, rfl, Below.refl _ _⟩
  case round =>
    obtain ⟨p, q, p0, q0, p1, q1, rfl, rfl, HG, hb2⟩ := hrel
    by_cases hq : q = 0
    · subst hq
      have HP := Lib.hid (gI_zero p0)
      go_wp2
      go_ret
      exact ⟨ret_int (HP.out.symm.trans HG.out), hb2⟩
    · have e0 : (q != 0) = true := by simpa using hq
      have e1 : (q == 0) = false := by simpa using hq
      obtain ⟨h1, h2, h3, h4⟩ := gI_next p0 q0 hq
      have H1 := Lib.hid h1
      clear h1
      go_wp2
      go_quiet (fail)
      go_wp2
      go_roundw
      case rel => exact ⟨q, p % q, q0, h2, q1, by omega, rfl, rfl, by rw [H1.out]; exact HG.out, belowN hb2 _⟩
      case measure => simp [intOf]; omega
theorem any_le {l : List Int} (h : ∀ j, ∀ hj : j < l.length, badW l[j] = false) : l.any badW = false := by
  rw [List.any_eq_false]
  intro x hx
  obtain ⟨j, hj, rfl⟩ := List.getElem_of_mem hx
  rw [h j hj]; simp
theorem any_bad {l : List Int} {k : Nat} (hk : k < l.length) (h : badW l[k] = true) : l.any badW = true := List.any_eq_true.2 ⟨_, List.getElem_mem hk, h⟩
set_option maxHeartbeats 1000000 in
theorem rrow_any (A : Option Addr) (c : Nat) (l : List Int) (N : Nat) (w : World) (hl : l.length ≤ 1000000) (hr : Sl intCell 1 w w.heap.size A l) :
    Calls Try.prog 76 #[.slice A l.length c, .int .i64 (N : Int)] w fun e w' => e = .returned (.bool (rowB N l)) ∧ w = w' := by
  have HR := Lib.hid hr
  clear hr
  by_cases hN : l.length = N
  · have HNN := Lib.hid hN
    have d1 : ((l.length : Int) != (N : Int)) = false := by simp; omega
    have d2 : (l.length != N) = false := by simp; omega
    clear hN
    go_enter Try.func76, Try.ntmps76
    go_wp2
    go_loop [5, 6] (fun v i => ∃ (k : Nat) (s : Int), k ≤ l.length ∧ i = .int .i64 k ∧ v = .int .i64 s ∧ 0 ≤ s ∧ s ≤ 1000 * (k : Int) ∧ Hid (s = sumL (l.take k)) ∧ Hid (∀ j, j < k → ∀ hj : j < l.length, badW l[j] = false)) (fun _ i => l.length - (intOf i).toNat)
    case atStart => exact ⟨0, 0, by omega, rfl, rfl, by omega, by omega, Lib.hid rfl, Lib.hid fun j h => by omega⟩
    case round =>
      obtain ⟨k, s, hk, rfl, rfl, s0, s1, HS, HP⟩ := hrel
      by_cases hlt : k < l.length
      · obtain ⟨b, o, rfl, hb, hc⟩ := HR.out.int_at hlt
        have HS2 := Lib.hid (sumL_take l k hlt)
        obtain ⟨x, hx⟩ : ∃ x, x = l[k] := ⟨_, rfl⟩
        have i1 : (k : Int) < (l.length : Int) := by omega
        rw [← hx] at hc HS2
        have HX := Lib.hid hx
        clear hx
        by_cases h1 : x < 0
        · have e1 : decide (x < 0) = true := by simp; omega
          have HT : Hid (rowB N l = false) := (by show _ = _; exact rowB_bad (any_bad hlt (by rw [← HX.out]; simp [badW]; omega)) : _)
          go_wp2
          go_ret
          exact ⟨ret_bool HT.out.symm, rfl⟩
        · have e1 : decide (x < 0) = false := by simp; omega
          by_cases h2 : 1000 < x
          · have e2 : decide (1000 < x) = true := by simp; omega
            have HT : Hid (rowB N l = false) := (by show _ = _; exact rowB_bad (any_bad hlt (by rw [← HX.out]; simp [badW]; omega)) : _)
            go_wp2
            go_ret
            exact ⟨ret_bool HT.out.symm, rfl⟩
          · have e2 : decide (1000 < x) = false := by simp; omega
            have ws : IntKind.i64.wrap (s + x) = s + x := IntWalk.i64_in _ ⟨by omega, by omega⟩
            have HBX : Hid (badW l[k] = false) := (by show _ = _; rw [← HX.out]; simp [badW]; omega : _)
            go_wp2
            go_round
            case rel => exact ⟨k + 1, s + x, by omega, by go_num, rfl, by omega, by omega, by rw [HS.out]; exact Lib.hid HS2.out.symm, Lib.hid fun j hj hjl => by
              rcases Nat.lt_succ_iff_lt_or_eq.1 hj with h | h
              · exact HP.out j h hjl
              · subst h; exact HBX.out⟩
            case measure => simp [intOf]; omega
      · obtain rfl : k = l.length := by omega
        have HT : Hid (rowB N l = decide (0 < s)) := (by show _ = _; rw [rowB_sum HNN.out (any_le fun j hj => HP.out j hj hj), HS.out, take_all_int] : _)
        go_wp2
        go_ret
        exact ⟨ret_bool HT.out.symm, rfl⟩
  · have HT : Hid (rowB N l = false) := (by show _ = _; exact rowB_len hN : _)
    have d1 : ((l.length : Int) != (N : Int)) = true := by simp; omega
    have d2 : (l.length != N) = true := by simp; omega
    clear hN
    go_enter Try.func76, Try.ntmps76
    go_wp2
    go_ret
    exact ⟨ret_bool HT.out.symm, rfl⟩
set_option maxRecDepth 100000 in
theorem routs_any (kd : Int) (A : Option Addr) (c : Nat) (rows : List LL) (af : Int) (w : World) (hr : (Md.mk kd A c rows af).reads w w.heap.size) :
    Calls Try.prog 47 #[.agg #[.int .i64 kd, .slice A rows.length c, .int .i64 af]] w fun e w' => e = .returned (.int .i64 ((Md.m ⟨kd, A, c, rows, af⟩).outs : Int)) ∧ Below w.heap.size w w' := by
  rw [outs_eq]
  rcases Nat.eq_zero_or_pos rows.length with h0 | h0
  · obtain rfl := List.eq_nil_of_length_eq_zero h0
    clear hr h0
    go_enter Try.func47, Try.ntmps47
    go_wp2
    go_ret
    exact ⟨rfl, by (repeat (first | exact Below.refl _ _ | assumption | (refine Below.alloc ?_ (by first | omega | (simp; omega) | (simp; done)) _) | (refine Below.setCell ?_ (by first | omega | (simp; omega) | (simp; done)) _) | (refine Below.drew ?_) | (refine belowN ?_ _) | (refine Below.trans ?_ (Below.mono ‹Below _ _ _› (by first | omega | (simp; omega) | (simp; done))))))⟩
  · obtain ⟨ab, ao, rfl, hblk, hcell, -⟩ := hr.ls.at_ h0
    clear hr
    cases rows with
    | nil => simp at h0
    | cons r t =>
      simp only [List.getElem_cons_zero, Nat.add_zero] at hcell
      have d0 : decide (((r :: t).length : Int) = 0) = false := by simp; omega
      have d1 : (((r :: t).length : Int) == 0) = false := by simp; omega
      have d2 : ((r :: t).length == 0) = false := by simp
      obtain ⟨n, hn⟩ : ∃ n, n = (r :: t).length := ⟨_, rfl⟩
      rw [← hn] at h0 d0 d1 d2 ⊢
      clear hn
      go_enter Try.func47, Try.ntmps47
      go_wp2
      go_ret
      exact ⟨rfl, by (repeat (first | exact Below.refl _ _ | assumption | (refine Below.alloc ?_ (by first | omega | (simp; omega) | (simp; done)) _) | (refine Below.setCell ?_ (by first | omega | (simp; omega) | (simp; done)) _) | (refine Below.drew ?_) | (refine belowN ?_ _) | (refine Below.trans ?_ (Below.mono ‹Below _ _ _› (by first | omega | (simp; omega) | (simp; done))))))⟩
theorem routs_of (x : Md) (w : World) (hr : x.reads w w.heap.size) :
    Calls Try.prog 47 #[.agg #[.int .i64 x.kind, .slice x.a x.rows.length x.c, .int .i64 x.after]] w fun e w' => e = .returned (.int .i64 (x.m.outs : Int)) ∧ Below w.heap.size w w' := routs_any x.kind x.a x.c x.rows x.after w hr
theorem modB_n {m : HMd} (h : ¬ (1 ≤ m.outs ∧ m.outs ≤ 32)) : modB m = false := by unfold modB; rw [decide_eq_false h]; rfl
theorem modB_row {m : HMd} {r : List Int} (hr : r ∈ m.rows) (h : rowB m.outs r = false) : modB m = false := by
  have : m.rows.all (rowB m.outs) = false := by
    rw [← Bool.not_eq_true, List.all_eq_true]
    intro h2
    rw [h2 r hr] at h; cases h
  unfold modB
  rw [this, Bool.and_false, Bool.false_and]
theorem modB_kind {m : HMd} (h1 : 1 ≤ m.outs ∧ m.outs ≤ 32) (h2 : m.rows.all (rowB m.outs) = true) : modB m = kindB m.kind m.rows.length m.outs m.after (totI m.row0) := by
  unfold modB kindB
  rw [decide_eq_true h1, h2]; rfl
theorem rowB_bd {n : Nat} {r : List Int} (h : rowB n r = true) : r.length = n ∧ (∀ x ∈ r, 0 ≤ x) ∧ sumL r ≤ 1000 * r.length := by
  simp only [rowB, Bool.and_eq_true, decide_eq_true_eq, List.all_eq_true] at h
  refine ⟨h.1.1, fun x hx => (h.1.2 x hx).1, ?_⟩
  rw [← totI_sumL]
  exact totI_le fun x hx => (h.1.2 x hx).2
set_option maxRecDepth 100000 in
set_option maxHeartbeats 4000000 in
theorem rmodel_any (kd : Int) (A : Option Addr) (c : Nat) (rows : List LL) (af : Int) (w : World) (hr : (Md.mk kd A c rows af).reads w w.heap.size) :
    Calls Try.prog 46 #[.agg #[.int .i64 kd, .slice A rows.length c, .int .i64 af]] w fun e w' => e = .returned (.bool (modB (Md.m ⟨kd, A, c, rows, af⟩))) ∧ Below w.heap.size w w' := by
  have HX := Lib.hid hr
  have HO := Lib.hid (fun W (hW : Below w.heap.size w W) => routs_of ⟨kd, A, c, rows, af⟩ W ((hr.below hW).more hW.size))
  clear hr
  obtain ⟨m, hm⟩ : ∃ m, m = Md.m ⟨kd, A, c, rows, af⟩ := ⟨_, rfl⟩
  rw [← hm] at HO ⊢
  have HK : Hid (m.kind = kd ∧ m.after = af ∧ m.rows.length = rows.length ∧ ∀ k (hk : k < rows.length), rows[k].l ∈ m.rows) := (by show _ ∧ _; rw [hm]; exact ⟨rfl, rfl, by simp [Md.m], fun k hk => List.mem_map.2 ⟨_, List.getElem_mem hk, rfl⟩⟩ : _)
  have HM : Hid (m.rows = rows.map LL.l) := (by show _ = _; rw [hm]; rfl : _)
  obtain ⟨N, hN⟩ : ∃ N, N = m.outs := ⟨_, rfl⟩
  rw [← hN] at HO
  have HN := Lib.hid hN
  clear hN hm
  go_enter Try.func46, Try.ntmps46
  go_wp2_with (first | (go_at_call 47; refine (HO.out _ (by (repeat (first | exact Below.refl _ _ | assumption | (refine Below.alloc ?_ (by first | omega | (simp; omega) | (simp; done)) _) | (refine Below.setCell ?_ (by first | omega | (simp; omega) | (simp; done)) _) | (refine Below.drew ?_) | (refine belowN ?_ _) | (refine Below.trans ?_ (Below.mono ‹Below _ _ _› (by first | omega | (simp; omega) | (simp; done)))))))).mono ?_; rintro _ w1 ⟨rfl, hb1⟩; refine Hid.out ?_) | fail)
  have g1 : Blk w1 w.heap.size #[.int .i64 kd, .slice A rows.length c, .int .i64 af] 25 := (Blk.new w _ _).below hb1 (by simp)
  have hw1 : Below w.heap.size w w1 := bl3 (Below.refl _ _) hb1
  have d0 := g1.cell 0; have d1 := g1.cell 1; have d2 := g1.cell 2
  simp at d0 d1 d2
  have gl := g1.lt
  clear hb1 g1 HO
  refine Lib.hid ?_
  by_cases h1 : N < 1
  · have q1 : decide ((N : Int) < 1) = true := by simp; omega
    have HT : Hid (modB m = false) := (by show _ = _; exact modB_n (by rw [← HN.out]; omega) : _)
    go_wp2
    go_ret
    exact ⟨ret_bool HT.out.symm, by (repeat (first | exact Below.refl _ _ | assumption | (refine Below.alloc ?_ (by first | omega | (simp; omega) | (simp; done)) _) | (refine Below.setCell ?_ (by first | omega | (simp; omega) | (simp; done)) _) | (refine Below.drew ?_) | (refine belowN ?_ _) | (refine Below.trans ?_ (Below.mono ‹Below _ _ _› (by first | omega | (simp; omega) | (simp; done))))))⟩
  have q1 : decide ((N : Int) < 1) = false := by simp; omega
  by_cases h2 : 32 < N
  · have q2 : decide ((32 : Int) < (N : Int)) = true := by simp; omega
    have HT : Hid (modB m = false) := (by show _ = _; exact modB_n (by rw [← HN.out]; omega) : _)
    go_wp2
    go_ret
    exact ⟨ret_bool HT.out.symm, by (repeat (first | exact Below.refl _ _ | assumption | (refine Below.alloc ?_ (by first | omega | (simp; omega) | (simp; done)) _) | (refine Below.setCell ?_ (by first | omega | (simp; omega) | (simp; done)) _) | (refine Below.drew ?_) | (refine belowN ?_ _) | (refine Below.trans ?_ (Below.mono ‹Below _ _ _› (by first | omega | (simp; omega) | (simp; done))))))⟩
  have q2 : decide ((32 : Int) < (N : Int)) = false := by simp; omega
  go_wp2
  go_loop [4] (fun i => ∃ k : Nat, k ≤ rows.length ∧ i = .int .i64 k ∧ Hid (∀ j, j < k → ∀ hj : j < rows.length, rowB N rows[j].l = true)) (fun i => rows.length - (intOf i).toNat)
  case atStart => exact ⟨0, by omega, rfl, Lib.hid fun j h => by omega⟩
  case round =>
    obtain ⟨k, hk, rfl, HP⟩ := hrel
    have hlen := HX.out.len
    simp only at hlen
    by_cases hlt : k < rows.length
    · obtain ⟨ab, ao, rfl, hblk, hcell, hsl⟩ := (HX.out.ls.below hw1).at_ (k := k) hlt
      have HRW := Lib.hid (rrow_any rows[k].a rows[k].c rows[k].l N w1 (HX.out.rl _ (List.getElem_mem hlt)) (hsl.more hw1.size))
      have k0 : (0 : Int) ≤ (k : Int) := by omega
      have k1 : (k : Int) < (rows.length : Int) := by omega
      obtain ⟨v, hv⟩ : ∃ v, v = rowB N rows[k].l := ⟨_, rfl⟩
      rw [← hv] at HRW
      have HV := Lib.hid hv
      clear hv hsl
      cases v
      · have HT : Hid (modB m = false) := (by show _ = _; exact modB_row (HK.out.2.2.2 k hlt) (by rw [← HN.out]; exact HV.out.symm) : _)
        go_wp2_with (first | (go_at_call 76; refine HRW.out.mono ?_; rintro _ _ ⟨rfl, rfl⟩) | fail)
        go_ret
        exact ⟨ret_bool HT.out.symm, hw1⟩
      · go_wp2_with (first | (go_at_call 76; refine HRW.out.mono ?_; rintro _ _ ⟨rfl, rfl⟩) | fail)
        go_round
        case rel => exact ⟨k + 1, by omega, by go_num, Lib.hid fun j hj hjl => by
          rcases Nat.lt_succ_iff_lt_or_eq.1 hj with h | h
          · exact HP.out j h hjl
          · subst h; exact HV.out.symm⟩
        case measure => simp [intOf]; omega
    · obtain rfl : k = rows.length := by omega
      have hall : ∀ j, ∀ hj : j < rows.length, rowB N rows[j].l = true := fun j hj => HP.out j hj hj
      have HMK : Hid (modB m = kindB kd rows.length N af (totI m.row0)) := (by
        show _ = _
        rw [modB_kind (m := m) (by rw [← HN.out]; omega) (by
          rw [← HN.out, List.all_eq_true, HM.out]
          intro r hr
          obtain ⟨y, hy, rfl⟩ := List.mem_map.1 hr
          obtain ⟨j, hj, rfl⟩ := List.getElem_of_mem hy
          exact hall j hj), ← HN.out, HK.out.1, HK.out.2.1, HK.out.2.2.1] : _)
      have HALL := Lib.hid hall
      clear hall HP hk
      by_cases k1 : kd = 1
      · have e1 : (kd == 1) = true := by simp; exact k1
        by_cases hl1 : rows.length = 1
        · have e2 : ((rows.length : Int) == 1) = true := by simp; omega
          have e2' : (rows.length == 1) = true := by simp; exact hl1
          by_cases ha0 : af = 0
          · have e3 : (af == 0) = true := by simp; exact ha0
            have HT : Hid (modB m = true) := (by show _ = _; rw [HMK.out]; unfold kindB; rw [if_pos k1, decide_eq_true ⟨hl1, ha0⟩] : _)
            clear k1 hl1 ha0 hlt
            go_wp2
            go_ret
            exact ⟨ret_bool HT.out.symm, by (repeat (first | exact Below.refl _ _ | assumption | (refine Below.alloc ?_ (by first | omega | (simp; omega) | (simp; done)) _) | (refine Below.setCell ?_ (by first | omega | (simp; omega) | (simp; done)) _) | (refine Below.drew ?_) | (refine belowN ?_ _) | (refine Below.trans ?_ (Below.mono ‹Below _ _ _› (by first | omega | (simp; omega) | (simp; done))))))⟩
          · have e3 : (af == 0) = false := by simp; exact ha0
            have HT : Hid (modB m = false) := (by show _ = _; rw [HMK.out]; unfold kindB; rw [if_pos k1, decide_eq_false (fun h => ha0 h.2)] : _)
            clear k1 hl1 ha0 hlt
            go_wp2
            go_ret
            exact ⟨ret_bool HT.out.symm, by (repeat (first | exact Below.refl _ _ | assumption | (refine Below.alloc ?_ (by first | omega | (simp; omega) | (simp; done)) _) | (refine Below.setCell ?_ (by first | omega | (simp; omega) | (simp; done)) _) | (refine Below.drew ?_) | (refine belowN ?_ _) | (refine Below.trans ?_ (Below.mono ‹Below _ _ _› (by first | omega | (simp; omega) | (simp; done))))))⟩
        · have e2 : ((rows.length : Int) == 1) = false := by simp; omega
          have e2' : (rows.length == 1) = false := by simp; exact hl1
          have HT : Hid (modB m = false) := (by show _ = _; rw [HMK.out]; unfold kindB; rw [if_pos k1, decide_eq_false (fun h => hl1 h.1)] : _)
          clear k1 hl1 hlt
          go_wp2
          go_ret
          exact ⟨ret_bool HT.out.symm, by (repeat (first | exact Below.refl _ _ | assumption | (refine Below.alloc ?_ (by first | omega | (simp; omega) | (simp; done)) _) | (refine Below.setCell ?_ (by first | omega | (simp; omega) | (simp; done)) _) | (refine Below.drew ?_) | (refine belowN ?_ _) | (refine Below.trans ?_ (Below.mono ‹Below _ _ _› (by first | omega | (simp; omega) | (simp; done))))))⟩
      have e1 : (kd == 1) = false := by simp; exact k1
      by_cases k2 : kd = 2
      · have e2 : (kd == 2) = true := by simp; exact k2
        have wN : IntKind.i64.wrap ((N : Int) + 1) = (N : Int) + 1 := IntWalk.i64_in _ ⟨by omega, by omega⟩
        by_cases hl1 : rows.length = N + 1
        · have e3 : ((rows.length : Int) == (N : Int) + 1) = true := by simp; omega
          by_cases ha0 : af = 0
          · have e4 : (af == 0) = true := by simp; exact ha0
            have HT : Hid (modB m = true) := (by show _ = _; rw [HMK.out]; unfold kindB; rw [if_neg k1, if_pos k2, decide_eq_true ⟨hl1, ha0⟩] : _)
            clear k1 k2 hl1 ha0 hlt
            go_wp2
            go_ret
            exact ⟨ret_bool HT.out.symm, by (repeat (first | exact Below.refl _ _ | assumption | (refine Below.alloc ?_ (by first | omega | (simp; omega) | (simp; done)) _) | (refine Below.setCell ?_ (by first | omega | (simp; omega) | (simp; done)) _) | (refine Below.drew ?_) | (refine belowN ?_ _) | (refine Below.trans ?_ (Below.mono ‹Below _ _ _› (by first | omega | (simp; omega) | (simp; done))))))⟩
          · have e4 : (af == 0) = false := by simp; exact ha0
            have HT : Hid (modB m = false) := (by show _ = _; rw [HMK.out]; unfold kindB; rw [if_neg k1, if_pos k2, decide_eq_false (fun h => ha0 h.2)] : _)
            clear k1 k2 hl1 ha0 hlt
            go_wp2
            go_ret
            exact ⟨ret_bool HT.out.symm, by (repeat (first | exact Below.refl _ _ | assumption | (refine Below.alloc ?_ (by first | omega | (simp; omega) | (simp; done)) _) | (refine Below.setCell ?_ (by first | omega | (simp; omega) | (simp; done)) _) | (refine Below.drew ?_) | (refine belowN ?_ _) | (refine Below.trans ?_ (Below.mono ‹Below _ _ _› (by first | omega | (simp; omega) | (simp; done))))))⟩
        · have e3 : ((rows.length : Int) == (N : Int) + 1) = false := by simp; omega
          have HT : Hid (modB m = false) := (by show _ = _; rw [HMK.out]; unfold kindB; rw [if_neg k1, if_pos k2, decide_eq_false (fun h => hl1 h.1)] : _)
          clear k1 k2 hl1 hlt
          go_wp2
          go_ret
          exact ⟨ret_bool HT.out.symm, by (repeat (first | exact Below.refl _ _ | assumption | (refine Below.alloc ?_ (by first | omega | (simp; omega) | (simp; done)) _) | (refine Below.setCell ?_ (by first | omega | (simp; omega) | (simp; done)) _) | (refine Below.drew ?_) | (refine belowN ?_ _) | (refine Below.trans ?_ (Below.mono ‹Below _ _ _› (by first | omega | (simp; omega) | (simp; done))))))⟩
      have e2 : (kd == 2) = false := by simp; exact k2
      by_cases k3 : kd = 3
      · have e3 : (kd == 3) = true := by simp; exact k3
        by_cases hl1 : rows.length = 1
        · obtain ⟨ab, ao, rfl, hblk, hcell, hsl⟩ := (HX.out.ls.below hw1).at_ (k := 0) (by rw [hl1]; exact Nat.one_pos)
          simp only [Nat.add_zero] at hcell
          have h0 := HALL.out 0 (by omega)
          obtain ⟨b1, b2, b3⟩ := rowB_bd h0
          have HTO := Lib.hid (fun W (hW : Below w.heap.size w W) => utotal_any rows[0].a rows[0].c rows[0].l W (by omega) b2 (by omega) (((HX.out.ls.below hW).row _ (List.getElem_mem (by omega : 0 < rows.length))).more hW.size))
          obtain ⟨r0, hr0⟩ : ∃ r, r = rows[0] := ⟨_, rfl⟩
          have HR0 : Hid (totI m.row0 = sumL r0.l) := (by
            show _ = _
            rw [totI_sumL, HMd.row0, HM.out, hr0]
            congr 1
            simp [show 0 < rows.length by omega] : _)
          rw [← hr0] at HTO hcell
          obtain ⟨t, ht⟩ : ∃ t, t = sumL r0.l := ⟨_, rfl⟩
          rw [← ht] at HTO HR0
          have e4 : ((rows.length : Int) == 1) = true := by simp; omega
          have e4' : (rows.length == 1) = true := by simp; exact hl1
          have hpos : (0 : Int) < (rows.length : Int) := by omega
          clear hr0 ht h0 b1 b2 b3 hsl hblk
          by_cases ha1 : 1 ≤ af
          · have e5 : decide (1 ≤ af) = true := by simpa using ha1
            by_cases ha2 : af ≤ t
            · have e6 : decide (af ≤ t) = true := by simpa using ha2
              have HT : Hid (modB m = true) := (by show _ = _; rw [HMK.out]; unfold kindB; rw [if_neg k1, if_neg k2, if_pos k3, decide_eq_true ⟨hl1, ha1, by rw [HR0.out]; exact ha2⟩] : _)
              clear k1 k2 k3 hl1 ha1 ha2 hlt
              go_wp2
              (refine wp_region_ext (by kernel_rfl) (by kernel_rfl) ?_; (repeat (go_big_quiet_step((first | (go_at_call 77; exact Calls.ext_same (HTO.out _ (bl_ext0 hw1 _))) | fail)))); with_reducible refine wpQuiet_nil ?_; intro w1 hw1; have hb1 := ext_below hw1; clear hw1)
              go_wp2
              go_ret
              exact ⟨ret_bool HT.out.symm, bl2 hw1 hb1⟩
            · have e6 : decide (af ≤ t) = false := by simp; omega
              have HT : Hid (modB m = false) := (by show _ = _; rw [HMK.out]; unfold kindB; rw [if_neg k1, if_neg k2, if_pos k3, decide_eq_false (fun h => ha2 (by have := h.2.2; rwa [HR0.out] at this))] : _)
              clear k1 k2 k3 hl1 ha1 ha2 hlt
              go_wp2
              (refine wp_region_ext (by kernel_rfl) (by kernel_rfl) ?_; (repeat (go_big_quiet_step((first | (go_at_call 77; exact Calls.ext_same (HTO.out _ (bl_ext0 hw1 _))) | fail)))); with_reducible refine wpQuiet_nil ?_; intro w1 hw1; have hb1 := ext_below hw1; clear hw1)
              go_wp2
              go_ret
              exact ⟨ret_bool HT.out.symm, bl2 hw1 hb1⟩
          · have e5 : decide (1 ≤ af) = false := by simp; omega
            have HT : Hid (modB m = false) := (by show _ = _; rw [HMK.out]; unfold kindB; rw [if_neg k1, if_neg k2, if_pos k3, decide_eq_false (fun h => ha1 h.2.1)] : _)
            clear k1 k2 k3 hl1 ha1 hlt
            go_wp2
            (refine wp_region_ext (by kernel_rfl) (by kernel_rfl) ?_; (repeat (go_big_quiet_step((first | (go_at_call 77; exact Calls.ext_same (HTO.out _ (bl_ext0 hw1 _))) | fail)))); with_reducible refine wpQuiet_nil ?_; intro w1 hw1; have hb1 := ext_below hw1; clear hw1)
            go_wp2
            go_ret
            exact ⟨ret_bool HT.out.symm, bl2 hw1 hb1⟩
        · have e4 : ((rows.length : Int) == 1) = false := by simp; omega
          have e4' : (rows.length == 1) = false := by simp; exact hl1
          have HT : Hid (modB m = false) := (by show _ = _; rw [HMK.out]; unfold kindB; rw [if_neg k1, if_neg k2, if_pos k3, decide_eq_false (fun h => hl1 h.1)] : _)
          clear k1 k2 k3 hl1 hlt
          go_wp2
          go_quiet (fail)
          go_wp2
          go_ret
          exact ⟨ret_bool HT.out.symm, by (repeat (first | exact Below.refl _ _ | assumption | (refine Below.alloc ?_ (by first | omega | (simp; omega) | (simp; done)) _) | (refine Below.setCell ?_ (by first | omega | (simp; omega) | (simp; done)) _) | (refine Below.drew ?_) | (refine belowN ?_ _) | (refine Below.trans ?_ (Below.mono ‹Below _ _ _› (by first | omega | (simp; omega) | (simp; done))))))⟩
      · have e3 : (kd == 3) = false := by simp; exact k3
        have HT : Hid (modB m = false) := (by show _ = _; rw [HMK.out]; unfold kindB; rw [if_neg k1, if_neg k2, if_neg k3] : _)
        clear k1 k2 k3 hlt
        go_wp2
        go_ret
        exact ⟨ret_bool HT.out.symm, by (repeat (first | exact Below.refl _ _ | assumption | (refine Below.alloc ?_ (by first | omega | (simp; omega) | (simp; done)) _) | (refine Below.setCell ?_ (by first | omega | (simp; omega) | (simp; done)) _) | (refine Below.drew ?_) | (refine belowN ?_ _) | (refine Below.trans ?_ (Below.mono ‹Below _ _ _› (by first | omega | (simp; omega) | (simp; done))))))⟩
theorem rmodel_of (x : Md) (w : World) (hr : x.reads w w.heap.size) :
    Calls Try.prog 46 #[.agg #[.int .i64 x.kind, .slice x.a x.rows.length x.c, .int .i64 x.after]] w fun e w' => e = .returned (.bool (modB x.m)) ∧ Below w.heap.size w w' := rmodel_any x.kind x.a x.c x.rows x.after w hr
end Go.Proofs.Ytiikkcifdhcejaa

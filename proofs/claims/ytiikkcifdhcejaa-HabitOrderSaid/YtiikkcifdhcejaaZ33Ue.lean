/- habit, references: Register. -/
import Derived.Test.YtiikkcifdhcejaaUd
import Derived.Deep.DeepCutAuto
namespace Go.Proofs.Ytiikkcifdhcejaa
open Go.RowKit

theorem inE_five {n : Int} {l : List Int} (h : 400 < l.length) : inE n l = 5 := by unfold inE; rw [if_pos h]
theorem inE_two {n : Int} {l : List Int} (h : ¬ 400 < l.length) (hn : n < 1000000000000000) {k : Nat} (hk : k < l.length) (h2 : outB n l[k] = true) : inE n l = 2 := by
  unfold inE
  rw [if_neg h, if_pos ⟨hn, List.any_eq_true.2 ⟨_, List.getElem_mem hk, h2⟩⟩]
theorem inE_ok {n : Int} {l : List Int} (h : ¬ 400 < l.length) (h2 : ∀ j, ∀ hj : j < l.length, outB n l[j] = false) : inE n l = 0 := by
  unfold inE
  rw [if_neg h, if_neg]
  rintro ⟨_, h3⟩
  rw [List.any_eq_true] at h3
  obtain ⟨x, hx, hx2⟩ := h3
  obtain ⟨j, hj, rfl⟩ := List.getElem_of_mem hx
  rw [h2 j hj] at hx2; cases hx2
set_option maxRecDepth 100000 in
set_option maxHeartbeats 4000000 in
theorem rreg_any (A : Option Addr) (c : Nat) (l : List Int) (A2 : Option Addr) (c2 : Nat) (ms : List Md) (w : World) (hl : l.length ≤ 1000000) (hm : ms.length ≤ 1000000) (hr : Sl intCell 1 w w.heap.size A l) (hs : Mds w w.heap.size A2 ms) :
    Calls Try.prog 17 #[.slice A2 ms.length c2, .slice A l.length c] w fun e w' => e = .returned (.int .i64 (regsE (ms.map Md.m) l)) ∧ Below w.heap.size w w' := by
  have HS := Lib.hid hs
  have HR := Lib.hid hr
  have HB : Hid (modsB (ms.map Md.m) = false → regsE (ms.map Md.m) l = 2) := fun h => by unfold regsE; rw [if_neg (by rw [h]; simp)]
  clear hs hr
  go_enter Try.func17, Try.ntmps17
  go_wp2
  go_loopw [5] (fun i wr => ∃ k : Nat, k ≤ ms.length ∧ i = .int .i64 k ∧ Below w.heap.size w wr ∧ Hid (∀ j, (hj : j < ms.length) → j < k → (modB ms[j].m && decide (ms[j].m.outs = outs0 (ms.map Md.m))) = true)) (fun i _ => ms.length - (intOf i).toNat)
  case atStart => exact ⟨0, by omega, rfl, Below.refl _ _, fun j _ h => by omega⟩
  case round =>
    obtain ⟨k, hk, rfl, hb, hno⟩ := hrel
    by_cases hlt : k < ms.length
    · have HSr := HS.out.below hb
      obtain ⟨ab, ao, rfl, hblk, hcell⟩ := HSr.top.at_ (k := k) (fun _ => rfl) hlt
      obtain ⟨ab', ao', e', hblk', hcell'⟩ := HSr.top.at_ (k := 0) (fun _ => rfl) (by omega : 0 < ms.length)
      obtain ⟨rfl, rfl⟩ : ab' = ab ∧ ao' = ao := (by injection e' with e'; injection e' with e1 e2; exact ⟨e1.symm, e2.symm⟩)
      have HK := Lib.hid (fun h => HB.out (modsB_bad (ms := ms.map Md.m) (k := k) (by simpa using hlt) (by simpa using h)))
      have HN := Lib.hid ((fun h => upto_succ (P := fun j => ∀ (hj : j < ms.length), (modB ms[j].m && decide (ms[j].m.outs = outs0 (ms.map Md.m))) = true) (k := k) (fun j hj hj' => hno.out j hj' hj) (fun _ => h)) : (modB ms[k].m && decide (ms[k].m.outs = outs0 (ms.map Md.m))) = true → Hid (∀ j, j < k + 1 → ∀ (hj : j < ms.length), (modB ms[j].m && decide (ms[j].m.outs = outs0 (ms.map Md.m))) = true))
      have ho0 : outs0 (ms.map Md.m) = ms[0].m.outs := (by cases ms with | nil => simp at hlt | cons x t => rfl)
      rw [ho0] at HK HN
      have HC := Lib.hid (fun W (hW : Below w.heap.size w W) => rmodel_of ms[k] W (((HS.out.each _ (List.getElem_mem hlt)).below hW).more hW.size))
      have HO := Lib.hid (fun W (hW : Below w.heap.size w W) => routs_of ms[k] W (((HS.out.each _ (List.getElem_mem hlt)).below hW).more hW.size))
      have H0 := Lib.hid (fun W (hW : Below w.heap.size w W) => routs_of ms[0] W (((HS.out.each _ (List.getElem_mem (by omega : 0 < ms.length))).below hW).more hW.size))
      have c0 := hcell 0 _ rfl
      have c1 := hcell 1 _ rfl
      have c2' := hcell 2 _ rfl
      have c3 := hcell' 0 _ rfl
      have c4 := hcell' 1 _ rfl
      have c5 := hcell' 2 _ rfl
      simp only [Nat.zero_mul, Nat.zero_add, Nat.add_zero] at c0 c1 c2' c3 c4 c5
      obtain ⟨x, hx⟩ : ∃ x, x = ms[k] := ⟨_, rfl⟩
      rw [← hx] at HK HN HC HO c0 c1 c2'
      obtain ⟨y, hy⟩ : ∃ y, y = ms[0] := ⟨_, rfl⟩
      rw [← hy] at HK HN H0 c3 c4 c5 ho0
      have HY := Lib.hid ho0
      have hk0 : (0 : Int) ≤ (k : Int) := by omega
      have hpos : (0 : Int) < (ms.length : Int) := by omega
      have hk1 : (k : Int) < (ms.length : Int) := by omega
      have hz := hb.size
      have hbl : ab' < wr.heap.size := by omega
      clear hx hy hcell hcell' ho0 HSr HS e'
      by_cases hv : modB x.m = true
      · rw [hv] at HC
        by_cases hq : x.m.outs = y.m.outs
        · have HNN := HN.out (by rw [hv, decide_eq_true hq]; rfl)
          have b1 : ((x.m.outs : Int) != (y.m.outs : Int)) = false := by simp; omega
          have b2 : (x.m.outs != y.m.outs) = false := by simp; omega
          clear hq hv HN HK
          go_wp2
          (refine wp_region_ext (by kernel_rfl) (by kernel_rfl) ?_; (repeat (go_big_quiet_step((first | (go_at_call 46; exact Calls.ext_of (HC.out _ (bl_ext0 hb _))) | (go_at_call 47; with_reducible exact Calls.ext_of (HO.out _ (bl_ext0 hb _))) | (go_at_call 47; with_reducible exact Calls.ext_of (H0.out _ (bl_ext0 hb _))) | fail)))); with_reducible refine wpQuiet_nil ?_; intro w1 hw1; have hb1 := ext_below hw1; clear hw1)
          go_wp2
          go_roundw
          case rel => exact ⟨k + 1, by omega, by go_num, bl2 hb hb1, fun j hj hj' => by rw [HY.out]; exact HNN.out j hj' hj⟩
          case measure => simp [intOf]; omega
        · have HE := Lib.hid (HK.out (fun _ => hq))
          have b1 : ((x.m.outs : Int) != (y.m.outs : Int)) = true := by simp; omega
          have b2 : (x.m.outs != y.m.outs) = true := by simp; omega
          clear hq hv HN HK
          go_wp2
          (refine wp_region_ext (by kernel_rfl) (by kernel_rfl) ?_; (repeat (go_big_quiet_step((first | (go_at_call 46; exact Calls.ext_of (HC.out _ (bl_ext0 hb _))) | (go_at_call 47; with_reducible exact Calls.ext_of (HO.out _ (bl_ext0 hb _))) | (go_at_call 47; with_reducible exact Calls.ext_of (H0.out _ (bl_ext0 hb _))) | fail)))); with_reducible refine wpQuiet_nil ?_; intro w1 hw1; have hb1 := ext_below hw1; clear hw1)
          go_wp2
          go_ret
          exact ⟨ret_int HE.out.symm, bl2 hb hb1⟩
      · have hv2 : modB x.m = false := by simpa using hv
        rw [hv2] at HC
        have HE := Lib.hid (HK.out (fun h => absurd h hv))
        clear hv hv2 HN HK
        go_wp2
        (refine wp_region_ext (by kernel_rfl) (by kernel_rfl) ?_; (repeat (go_big_quiet_step((first | (go_at_call 46; exact Calls.ext_of (HC.out _ (bl_ext0 hb _))) | (go_at_call 47; with_reducible exact Calls.ext_of (HO.out _ (bl_ext0 hb _))) | (go_at_call 47; with_reducible exact Calls.ext_of (H0.out _ (bl_ext0 hb _))) | fail)))); with_reducible refine wpQuiet_nil ?_; intro w1 hw1; have hb1 := ext_below hw1; clear hw1)
        go_wp2
        go_ret
        exact ⟨ret_int HE.out.symm, bl2 hb hb1⟩
    · obtain rfl : k = ms.length := by omega
      have HG : Hid (regsE (ms.map Md.m) l = inE (limI (ms.map Md.m)) l) := (by
        show _ = _; unfold regsE; rw [if_pos]; unfold modsB; rw [List.all_eq_true]; intro m hm
        obtain ⟨j, hj, rfl⟩ := List.mem_iff_getElem.1 hm
        rw [List.length_map] at hj
        have := hno.out j hj hj
        simpa using this : _)
      have hz := hb.size
      have HB0 := Lib.hid hb
      by_cases hlg : 400 < l.length
      · have hd : decide ((400 : Int) < (l.length : Int)) = true := by simp; omega
        have HT : Hid (regsE (ms.map Md.m) l = 5) := (by show _ = _; rw [HG.out]; exact inE_five hlg : _)
        clear hlt
        go_wp2
        go_ret
        exact ⟨ret_int HT.out.symm, HB0.out⟩
      have hd : decide ((400 : Int) < (l.length : Int)) = false := by simp; omega
      rcases Nat.eq_zero_or_pos ms.length with h0 | h0
      · have hd0 : decide ((0 : Int) < (ms.length : Int)) = false := decide_eq_false (by omega)
        have hd1 : decide (0 < ms.length) = false := decide_eq_false (by omega)
        have hm0 : ms.length = 0 := h0
        have HT : Hid (regsE (ms.map Md.m) l = 0) := (by
          show _ = _; rw [HG.out]
          obtain rfl := List.eq_nil_of_length_eq_zero h0
          unfold inE limI; rw [if_neg hlg, if_neg (by simp)] : _)
        clear hlt hlg h0 hno
        go_wp2
        go_loopw [6] (fun i wr => ∃ k : Nat, k ≤ l.length ∧ i = .int .i64 k ∧ Below w.heap.size w wr) (fun i _ => l.length - (intOf i).toNat)
        case atStart => exact ⟨0, by omega, rfl, HB0.out⟩
        case round =>
          rename World => W5
          obtain ⟨k, hk, rfl, hb⟩ := hrel
          by_cases hlt : k < l.length
          · have i1 : (k : Int) < (l.length : Int) := by omega
            go_wp2
            (refine wp_region_ext (by kernel_rfl) (by kernel_rfl) ?_; (repeat (go_big_quiet_step((fail)))); with_reducible refine wpQuiet_nil ?_; intro w1 hw1; have hb1 := ext_below hw1; clear hw1)
            go_wp2
            go_roundw
            case rel => exact ⟨k + 1, by omega, by go_num, bl2 hb hb1⟩
            case measure => simp [intOf]; omega
          · obtain rfl : k = l.length := by omega
            go_wp2
            go_ret
            exact ⟨ret_int HT.out.symm, hb⟩
      · have hd0 : decide ((0 : Int) < (ms.length : Int)) = true := decide_eq_true (by omega)
        have h1 := hno.out 0 h0 h0
        rw [Bool.and_eq_true] at h1
        have hn32 := (modB_iff.1 h1.1).n32
        have H0 := Lib.hid (fun W (hW : Below w.heap.size w W) => routs_of ms[0] W (((HS.out.each _ (List.getElem_mem h0)).below hW).more hW.size))
        have HT : Hid (regsE (ms.map Md.m) l = inE (ms[0].m.outs : Int) l) := (by
          show _ = _; rw [HG.out]
          cases ms with
          | nil => simp at h0
          | cons x t => rfl : _)
        obtain ⟨y, hy⟩ : ∃ y, y = ms[0] := ⟨_, rfl⟩
        rw [← hy] at H0 HT hn32
        have HY := Lib.hid hy
        have HLG := Lib.hid hlg
        clear hlt hlg hno hy h1 HG
        go_wp2
        go_loopw [6] (fun i wr => ∃ k : Nat, k ≤ l.length ∧ i = .int .i64 k ∧ Below w.heap.size w wr ∧ Hid (∀ j, j < k → ∀ hj : j < l.length, outB (y.m.outs : Int) l[j] = false)) (fun i _ => l.length - (intOf i).toNat)
        case atStart => exact ⟨0, by omega, rfl, HB0.out, Lib.hid fun j h => by omega⟩
        case round =>
          rename World => W5
          obtain ⟨k, hk, rfl, hb, HP⟩ := hrel
          by_cases hlt : k < l.length
          · obtain ⟨b, o, rfl, hbb, hc⟩ := (HR.out.below hb).int_at hlt
            obtain ⟨ab, ao, rfl, hblk, hcell⟩ := (HS.out.below hb).top.at_ (k := 0) (fun _ => rfl) h0
            have c3 := hcell 0 _ rfl
            have c4 := hcell 1 _ rfl
            have c5 := hcell 2 _ rfl
            simp only [Nat.zero_mul, Nat.zero_add, Nat.add_zero] at c3 c4 c5
            rw [← HY.out] at c3 c4 c5
            have k0 : (0 : Int) ≤ (k : Int) := by omega
            have i1 : (k : Int) < (l.length : Int) := by omega
            obtain ⟨x, hx⟩ : ∃ x, x = l[k] := ⟨_, rfl⟩
            rw [← hx] at hc
            obtain ⟨n, hn⟩ : ∃ n : Int, n = (y.m.outs : Int) := ⟨_, rfl⟩
            have hz2 := hb.size
            have hbl : ab < wr.heap.size := by omega
            have hbl2 : b < wr.heap.size := by omega
            rw [← hn] at H0
            have HN := Lib.hid hn; have HX := Lib.hid hx
            clear hn hx hcell
            by_cases h1 : x < 0
            · have d1 : decide (x < 0) = true := by simp; omega
              have HQ : Hid (inE (y.m.outs : Int) l = 2) := (by show _ = _; exact inE_two HLG.out (by omega) hlt (by rw [← HX.out]; unfold outB; simp; omega) : _)
              go_wp2
              (refine wp_region_ext (by kernel_rfl) (by kernel_rfl) ?_; (repeat (go_big_quiet_step((first | (go_at_call 47; exact Calls.ext_of (H0.out _ (bl_ext0 hb _))) | fail)))); with_reducible refine wpQuiet_nil ?_; intro w1 hw1; have hb1 := ext_below hw1; clear hw1)
              go_wp2
              go_ret
              exact ⟨ret_int (HT.out.trans HQ.out).symm, bl2 hb hb1⟩
            · have d1 : decide (x < 0) = false := by simp; omega
              by_cases h2 : n ≤ x
              · have d2 : decide (n ≤ x) = true := by simp; omega
                have HQ : Hid (inE (y.m.outs : Int) l = 2) := (by show _ = _; exact inE_two HLG.out (by omega) hlt (by rw [← HX.out, ← HN.out]; unfold outB; simp; omega) : _)
                go_wp2
                (refine wp_region_ext (by kernel_rfl) (by kernel_rfl) ?_; (repeat (go_big_quiet_step((first | (go_at_call 47; exact Calls.ext_of (H0.out _ (bl_ext0 hb _))) | fail)))); with_reducible refine wpQuiet_nil ?_; intro w1 hw1; have hb1 := ext_below hw1; clear hw1)
                go_wp2
                go_ret
                exact ⟨ret_int (HT.out.trans HQ.out).symm, bl2 hb hb1⟩
              · have d2 : decide (n ≤ x) = false := by simp; omega
                have HQ : Hid (outB (y.m.outs : Int) l[k] = false) := (by show _ = _; rw [← HX.out, ← HN.out]; unfold outB; simp; omega : _)
                go_wp2
                (refine wp_region_ext (by kernel_rfl) (by kernel_rfl) ?_; (repeat (go_big_quiet_step((first | (go_at_call 47; exact Calls.ext_of (H0.out _ (bl_ext0 hb _))) | fail)))); with_reducible refine wpQuiet_nil ?_; intro w1 hw1; have hb1 := ext_below hw1; clear hw1)
                go_wp2
                go_roundw
                case rel => exact ⟨k + 1, by omega, by go_num, bl2 hb hb1, Lib.hid fun j hj hjl => by
                  rcases Nat.lt_succ_iff_lt_or_eq.1 hj with h | h
                  · exact HP.out j h hjl
                  · subst h; exact HQ.out⟩
                case measure => simp [intOf]; omega
          · obtain rfl : k = l.length := by omega
            have HQ : Hid (inE (y.m.outs : Int) l = 0) := (by show _ = _; exact inE_ok HLG.out (fun j hj => HP.out j hj hj) : _)
            go_wp2
            go_ret
            exact ⟨ret_int (HT.out.trans HQ.out).symm, hb⟩
end Go.Proofs.Ytiikkcifdhcejaa
namespace Go.Proofs.Ytiikkcifdhcejaa
open Go.RowKit

theorem drop_snoc {l : List Int} {q j : Nat} (h : q ≤ j) (hj : j < l.length) : (l.take (j + 1)).drop q = (l.take j).drop q ++ [l.getD j 0] := by
  rw [List.take_succ_eq_append_getElem hj, List.drop_append_of_le_length (by rw [List.length_take]; omega)]
  simp [hj]
theorem wt_hab {m : HMd} {l : List Int} {i : Nat} (h2 : m.kind = 2) (h0 : 0 < i) : wtI m l i = ((m.rows.getD (l.getD (i - 1) 0 + 1).toNat []).getD (l.getD i 0).toNat 0, totI (m.rows.getD (l.getD (i - 1) 0 + 1).toNat [])) := by
  unfold wtI; simp only [if_pos (And.intro h2 h0)]
theorem wt_deck {m : HMd} {l : List Int} {i : Nat} (h3 : m.kind = 3) : wtI m l i = (max 0 (m.row0.getD (l.getD i 0).toNat 0 - cntI (l.getD i 0) ((l.take i).drop (i - i % m.after.toNat))), totI m.row0 - ((i % m.after.toNat : Nat) : Int)) := by
  unfold wtI; rw [if_neg (fun h => by omega), if_pos h3]
theorem wt_else {m : HMd} {l : List Int} {i : Nat} (h2 : ¬ (m.kind = 2 ∧ 0 < i)) (h3 : m.kind ≠ 3) : wtI m l i = (m.row0.getD (l.getD i 0).toNat 0, totI m.row0) := by
  unfold wtI; rw [if_neg h2, if_neg h3]
set_option maxRecDepth 100000 in
set_option maxHeartbeats 4000000 in
theorem rweight_any (kd : Int) (A : Option Addr) (c : Nat) (rows : List LL) (af : Int) (lA : Option Addr) (lc : Nat) (l : List Int) (k : Nat) (w : World) (hmod : ModOk (Md.m ⟨kd, A, c, rows, af⟩)) (hreg : regB (Md.m ⟨kd, A, c, rows, af⟩).outs l) (hk : k < l.length) (hl : l.length ≤ 1000000) (hx : (Md.mk kd A c rows af).reads w w.heap.size) (hr : Sl intCell 1 w w.heap.size lA l) :
    Calls Try.prog 51 #[.agg #[.int .i64 kd, .slice A rows.length c, .int .i64 af], .slice lA l.length lc, .int .i64 (k : Int)] w fun e w' => e = .returned (.tuple #[.int .i64 (wtI (Md.m ⟨kd, A, c, rows, af⟩) l k).1, .int .i64 (wtI (Md.m ⟨kd, A, c, rows, af⟩) l k).2]) ∧ Below w.heap.size w w' := by
  have HX := Lib.hid hx
  have HR := Lib.hid hr
  have HREG := Lib.hid hreg
  obtain ⟨m, hm⟩ : ∃ m, m = Md.m ⟨kd, A, c, rows, af⟩ := ⟨_, rfl⟩
  rw [← hm] at hmod HREG ⊢
  have HKD : Hid (m.kind = kd) := (by show _ = _; rw [hm]; rfl : _)
  have HAF : Hid (m.after = af) := (by show _ = _; rw [hm]; rfl : _)
  have HROW : Hid (m.rows = rows.map LL.l) := (by show _ = _; rw [hm]; rfl : _)
  have hrl : m.rows.length = rows.length := by rw [hm]; simp [Md.m]
  have hget : ∀ q, ∀ hq : q < rows.length, rows[q].l = m.rows.getD q [] ∧ rows[q].l ∈ m.rows := fun q hq => by
    rw [HROW.out]
    refine ⟨by simp [hq], List.mem_map.2 ⟨_, List.getElem_mem hq, rfl⟩⟩
  have h0r : 0 < rows.length := by
    obtain ⟨r, t, e⟩ := hmod.rows0
    rw [← hrl, e]; simp
  have hn32 := hmod.n32
  have HGET := Lib.hid hget
  have hrow := fun q (hq : q < rows.length) => hmod.row _ (hget q hq).2
  have HRW := Lib.hid hrow
  have hkind := hmod.kind
  rw [hrl, HKD.out, HAF.out] at hkind
  have HKI := Lib.hid hkind
  obtain ⟨x1, x2⟩ := HREG.out.at_ hk
  obtain ⟨N, hN⟩ : ∃ N, N = m.outs := ⟨_, rfl⟩
  rw [← hN] at HREG HRW x2 HKI hn32
  obtain ⟨X, hX⟩ : ∃ X : Nat, l.getD k 0 = (X : Int) := ⟨(l.getD k 0).toNat, by omega⟩
  have HXE := Lib.hid hX
  have hlk : l[k] = (X : Int) := by rw [← hX]; simp [hk]
  rw [hX] at x1 x2
  have hXN : X < N := by omega
  go_enter Try.func51, Try.ntmps51
  go_upto_region 1 with fail
  refine gen_w (fun W => Below w.heap.size w W ∧ Blk W w.heap.size #[.int .i64 kd, .slice A rows.length c, .int .i64 af] 25) ⟨by (repeat (first | exact Below.refl _ _ | assumption | (refine Below.alloc ?_ (by first | omega | (simp; omega) | (simp; done)) _) | (refine Below.setCell ?_ (by first | omega | (simp; omega) | (simp; done)) _) | (refine Below.drew ?_) | (refine belowN ?_ _) | (refine Below.trans ?_ (Below.mono ‹Below _ _ _› (by first | omega | (simp; omega) | (simp; done)))))), Blk.new w _ _⟩ ?_
  rintro wb ⟨hwb, g1⟩
  have d0 := g1.cell 0; have d1 := g1.cell 1; have d2 := g1.cell 2
  simp at d0 d1 d2
  have gl := g1.lt
  have HG1 := Lib.hid g1
  obtain ⟨b, f, rfl, hbb, hc⟩ := (HR.out.below hwb).int_at hk
  rw [hlk] at hc
  have k0 : (0 : Int) ≤ (k : Int) := by omega
  have k1 : (k : Int) < (l.length : Int) := by omega
  have X0 : (0 : Int) ≤ (X : Int) := by omega
  have hrpos : (0 : Int) < (rows.length : Int) := by omega
  have hbl : b < w.heap.size := hbb
  clear hX hlk hmod hm hrl hget hkind hrow hN hx hr hreg g1
  by_cases hq : kd = 2 ∧ 0 < k
  · obtain ⟨q2, q0⟩ := hq
    have e1 : (kd == 2) = true := by simp; exact q2
    have e2 : decide ((0 : Int) < (k : Int)) = true := by simp; omega
    have hkk : k - 1 < l.length := by omega
    obtain ⟨y1, y2⟩ := HREG.out.at_ hkk
    obtain ⟨Y, hY⟩ : ∃ Y : Nat, l.getD (k - 1) 0 = (Y : Int) := ⟨(l.getD (k - 1) 0).toNat, by omega⟩
    have hly : l[k - 1] = (Y : Int) := by rw [← hY]; simp [hkk]
    obtain ⟨b9, f9, hA9, hbb9, hc9⟩ := (HR.out.below hwb).int_at hkk
    cases hA9
    rw [hly] at hc9
    rw [hY] at y1 y2
    have hql : Y + 1 < rows.length := by
      rcases HKI.out with h | h | h
      · omega
      · omega
      · omega
    obtain ⟨ab, ao, rfl, hblk, hcell, hsl⟩ := (HX.out.ls.below hwb).at_ (k := Y + 1) hql
    obtain ⟨hg1, hg2⟩ := HGET.out (Y + 1) hql
    obtain ⟨w1', w2, w3⟩ := HRW.out (Y + 1) hql
    have HLS := Lib.hid (fun W (hW : Below w.heap.size w W) => ((HX.out.ls.below hW).row _ (List.getElem_mem hql)).more hW.size)
    obtain ⟨⟨ra, rc, rl⟩, hrr⟩ : ∃ r, r = rows[Y + 1] := ⟨_, rfl⟩
    rw [← hrr] at hcell hsl hg1 w1' w2 w3 HLS
    simp only at hcell hsl hg1 w1' w2 w3 HLS
    have hXl : X < rl.length := by omega
    obtain ⟨b2, f2, rfl, hbb2, hc2⟩ := hsl.int_at hXl
    have hbnd := totI_le (r := rl) fun x hx => (w2 x hx).2
    have HTO := Lib.hid (fun W (hW : Below w.heap.size w W) => utotal_any (some ⟨b2, f2, none⟩) rc rl W (by omega) (fun x hx => (w2 x hx).1) (by rw [← totI_sumL]; omega) (HLS.out W hW))
    have HT : Hid (wtI m l k = (rl[X], sumL rl)) := (by
      show _ = _
      rw [wt_hab (HKD.out.trans q2) q0, HXE.out, hY, show ((Y : Int) + 1).toNat = Y + 1 by omega, ← hg1, totI_sumL, Int.toNat_natCast]
      simp [hXl] : _)
    have w4 : IntKind.i64.wrap ((k : Int) - 1) = ((k - 1 : Nat) : Int) := by
      rw [show (k : Int) - 1 = ((k - 1 : Nat) : Int) by omega]
      exact IntWalk.i64_in _ ⟨by omega, by omega⟩
    have w5 : IntKind.i64.wrap ((Y : Int) + 1) = ((Y + 1 : Nat) : Int) := by
      rw [show (Y : Int) + 1 = ((Y + 1 : Nat) : Int) by omega]
      exact IntWalk.i64_in _ ⟨by omega, by omega⟩
    obtain ⟨Z, hZ⟩ : ∃ Z, Z = Y + 1 := ⟨_, rfl⟩
    obtain ⟨k9, hk9⟩ : ∃ Z, Z = k - 1 := ⟨_, rfl⟩
    obtain ⟨v, hv⟩ : ∃ v, v = rl[X] := ⟨_, rfl⟩
    rw [← hv] at hc2 HT
    rw [← hZ] at w5 hcell hql
    rw [← hk9] at w4 hc9 hkk
    have z0 : (0 : Int) ≤ (Z : Int) := by omega
    have z1 : (Z : Int) < (rows.length : Int) := by omega
    have z2 : (0 : Int) ≤ (k9 : Int) := by omega
    have z3 : (k9 : Int) < (l.length : Int) := by omega
    have z4 : (X : Int) < (rl.length : Int) := by omega
    clear hY hly hrr hg1 w1' w2 w3 hbnd hZ hk9 hv hsl q2
    go_wp2
    (refine wp_region_ext (by kernel_rfl) (by kernel_rfl) ?_; (repeat (go_big_quiet_step((fail)))); with_reducible refine wpQuiet_nil ?_; intro w1 hw1; have hb1 := ext_below hw1; clear hw1)
    have hwc := bl2 hwb hb1
    have hc2 : w1.cell? ⟨b2, f2 + X, none⟩ = some (.int .i64 v) := ((bcell hb1).1 b2 (f2 + X) (by have := hwb.size; omega)).trans hc2
    clear hb1
    go_wp2
    (refine wp_region_ext (by kernel_rfl) (by kernel_rfl) ?_; (repeat (go_big_quiet_step((first | (go_at_call 77; exact Calls.ext_same (HTO.out _ (bl_ext0 hwc _))) | fail)))); with_reducible refine wpQuiet_nil ?_; intro w1 hw1; have hb1 := ext_below hw1; clear hw1)
    go_wp2
    refine bodyPost_ret (v := .tuple #[.int .i64 v, .int .i64 (sumL rl)]) (by simp [results, Try.results51, go_sem]) rfl ?_
    refine ⟨?_, bl2 hwc hb1⟩
    rw [HT.out]
  · by_cases h3 : kd = 3
    · have e1 : (kd == 2) = false := by simp; omega
      have e2 : (kd == 3) = true := by simp; exact h3
      obtain ⟨a1, a2, a3⟩ : rows.length = 1 ∧ 1 ≤ af ∧ af ≤ totI m.row0 := by
        rcases HKI.out with h | h | h
        · omega
        · omega
        · exact h.2
      obtain ⟨a, ha⟩ : ∃ a : Nat, af = (a : Int) := ⟨af.toNat, by omega⟩
      have hat : m.after.toNat = a := by rw [HAF.out, ha]; simp
      obtain ⟨s, hs⟩ : ∃ s, s = k % a := ⟨_, rfl⟩
      have hsk : s ≤ k := by rw [hs]; exact Nat.mod_le _ _
      have e3 : ((k : Int)).tmod af = (s : Int) := by rw [Int.tmod_eq_emod_of_nonneg (by omega), hs, ha]; exact (Int.natCast_emod k a).symm
      have ne0 : ¬ af = 0 := by omega
      have nb0 : (af == 0) = false := by simp; omega
      obtain ⟨ab, ao, rfl, hblk, hcell, hsl⟩ := (HX.out.ls.below hwb).at_ (k := 0) h0r
      obtain ⟨hg1, hg2⟩ := HGET.out 0 h0r
      obtain ⟨w1', w2, w3⟩ := HRW.out 0 h0r
      have HLS := Lib.hid (fun W (hW : Below w.heap.size w W) => ((HX.out.ls.below hW).row _ (List.getElem_mem h0r)).more hW.size)
      have hr0 : m.rows.getD 0 [] = m.row0 := rfl
      obtain ⟨⟨ra, rc, rl⟩, hrr⟩ : ∃ r, r = rows[0] := ⟨_, rfl⟩
      rw [← hrr] at hcell hsl hg1 w1' w2 w3 HLS
      simp only [Nat.add_zero] at hcell hsl hg1 w1' w2 w3 HLS
      rw [hr0] at hg1
      have hXl : X < rl.length := by omega
      obtain ⟨b2, f2, rfl, hbb2, hc2⟩ := hsl.int_at hXl
      have hbnd := totI_le (r := rl) fun x hx => (w2 x hx).2
      have hv1 := w2 _ (List.getElem_mem hXl)
      have HTO := Lib.hid (fun W (hW : Below w.heap.size w W) => utotal_any (some ⟨b2, f2, none⟩) rc rl W (by omega) (fun x hx => (w2 x hx).1) (by rw [← totI_sumL]; omega) (HLS.out W hW))
      obtain ⟨v, hv⟩ : ∃ v, v = rl[X] := ⟨_, rfl⟩
      rw [← hv] at hc2 hv1
      obtain ⟨t, ht⟩ : ∃ t, t = sumL rl := ⟨_, rfl⟩
      have htb : 0 < t ∧ t ≤ 32000 := by rw [ht, ← totI_sumL]; omega
      rw [← ht] at HTO
      have HT : Hid (wtI m l k = (max 0 (v - cntI (X : Int) ((l.take k).drop (k - s))), t - (s : Int))) := (by
        show _ = _
        rw [wt_deck (HKD.out.trans h3), HXE.out, hat, ← hs, ← hg1, totI_sumL, Int.toNat_natCast, ← ht, hv]
        simp [hXl] : _)
      obtain ⟨k9, hk9⟩ : ∃ z, z = k - s := ⟨_, rfl⟩
      rw [← hk9] at HT
      have w4 : IntKind.i64.wrap ((k : Int) - (s : Int)) = (k9 : Int) := by
        rw [show (k : Int) - (s : Int) = (k9 : Int) by omega]
        exact IntWalk.i64_in _ ⟨by omega, by omega⟩
      have w5 : IntKind.i64.wrap (t - (s : Int)) = t - (s : Int) := IntWalk.i64_in _ ⟨by omega, by omega⟩
      have z4 : (X : Int) < (rl.length : Int) := by omega
      have HA := Lib.hid ha
      have hk9k : k9 ≤ k := by omega
      clear hrr hg1 w1' w2 w3 hbnd hv hsl a3 ha hat hs ht hr0 hk9 h3 HKI HGET HRW hq
      go_wp2
      go_loopw [11, 12] (fun lv iv wr => ∃ j : Nat, k9 ≤ j ∧ j ≤ k ∧ iv = .int .i64 j ∧ lv = .int .i64 (v - cntI (X : Int) ((l.take j).drop k9)) ∧ Hid (Below wb.heap.size wb wr)) (fun _ iv _ => k - (intOf iv).toNat)
      case atStart => exact ⟨k9, by omega, by omega, rfl, by rw [List.drop_eq_nil_of_le (by rw [List.length_take]; omega)]; simp [cntI], Lib.hid (by (repeat (first | exact Below.refl _ _ | assumption | (refine Below.alloc ?_ (by first | omega | (simp; omega) | (simp; done)) _) | (refine Below.setCell ?_ (by first | omega | (simp; omega) | (simp; done)) _) | (refine Below.drew ?_) | (refine belowN ?_ _) | (refine Below.trans ?_ (Below.mono ‹Below _ _ _› (by first | omega | (simp; omega) | (simp; done)))))))⟩
      case round =>
        rename World => W5
        obtain ⟨j, hj1, hj2, rfl, rfl, HB5⟩ := hrel
        have hb5 := HB5.out
        have hw5 := bl2 hwb hb5
        by_cases hlt : j < k
        · have hjl : j < l.length := by omega
          obtain ⟨b3, f3, e3', hbb3, hc3⟩ := (HR.out.below hw5).int_at hjl
          cases e3'
          obtain ⟨y, hy⟩ : ∃ y, y = l[j] := ⟨_, rfl⟩
          rw [← hy] at hc3
          have hgy : l.getD j 0 = y := by rw [hy]; simp [hjl]
          have hsn := drop_snoc (l := l) hj1 hjl
          have hcn := cntI_snoc (X : Int) y ((l.take j).drop k9)
          rw [hgy] at hsn
          rw [← hsn] at hcn
          have hcb := cntI_bd (X : Int) ((l.take j).drop k9)
          have hlen : ((l.take j).drop k9).length ≤ 1000000 := by rw [List.length_drop, List.length_take]; omega
          obtain ⟨cn, hcn0⟩ : ∃ z, z = cntI (X : Int) ((l.take j).drop k9) := ⟨_, rfl⟩
          rw [← hcn0] at hcn hcb ⊢
          have j0 : (0 : Int) ≤ (j : Int) := by omega
          have j1 : (j : Int) < (l.length : Int) := by omega
          have j2 : (j : Int) < (k : Int) := by omega
          have HCN := Lib.hid hcn
          clear hsn hgy hy hcn0
          by_cases he : y = (X : Int)
          · have de : (y == (X : Int)) = true := by simp; exact he
            have w6 : IntKind.i64.wrap (v - cn - 1) = v - (cn + 1) := by
              rw [show v - cn - 1 = v - (cn + 1) by omega]
              exact IntWalk.i64_in _ ⟨by omega, by omega⟩
            rw [if_pos he] at hcn
            have HCN := Lib.hid hcn
            clear hcn he
            go_wp2
            go_roundw
            case rel => exact ⟨j + 1, by omega, by omega, by go_num, by rw [HCN.out], Lib.hid (by (repeat (first | exact Below.refl _ _ | assumption | (refine Below.alloc ?_ (by first | omega | (simp; omega) | (simp; done)) _) | (refine Below.setCell ?_ (by first | omega | (simp; omega) | (simp; done)) _) | (refine Below.drew ?_) | (refine belowN ?_ _) | (refine Below.trans ?_ (Below.mono ‹Below _ _ _› (by first | omega | (simp; omega) | (simp; done)))))))⟩
            case measure => simp [intOf]; omega
          · have de : (y == (X : Int)) = false := by simp; exact he
            rw [if_neg he, Int.add_zero] at hcn
            have HCN := Lib.hid hcn
            clear hcn he
            go_wp2
            go_roundw
            case rel => exact ⟨j + 1, by omega, by omega, by go_num, by rw [HCN.out], Lib.hid (by (repeat (first | exact Below.refl _ _ | assumption | (refine Below.alloc ?_ (by first | omega | (simp; omega) | (simp; done)) _) | (refine Below.setCell ?_ (by first | omega | (simp; omega) | (simp; done)) _) | (refine Below.drew ?_) | (refine belowN ?_ _) | (refine Below.trans ?_ (Below.mono ‹Below _ _ _› (by first | omega | (simp; omega) | (simp; done)))))))⟩
            case measure => simp [intOf]; omega
        · obtain rfl : j = k := by omega
          obtain ⟨cn, hcn0⟩ : ∃ z, z = v - cntI (X : Int) ((l.take j).drop k9) := ⟨_, rfl⟩
          rw [← hcn0] at HT ⊢
          have g5 : Blk W5 w.heap.size #[.int .i64 kd, .slice (some ⟨ab, ao, none⟩) rows.length c, .int .i64 af] 25 := HG1.out.below hb5 gl
          have d0 := g5.cell 0; have d1 := g5.cell 1; have d2 := g5.cell 2
          simp at d0 d1 d2
          have hcell : W5.cell? ⟨ab, ao, none⟩ = some (.slice (some ⟨b2, f2, none⟩) rl.length rc) := ((bcell hb5).1 ab ao (by omega)).trans hcell
          clear hcn0
          rcases Int.lt_or_le 0 cn with hc0 | hc0
          · have dc : decide (0 < cn) = true := decide_eq_true hc0
            have hmx : max 0 cn = cn := by omega
            rw [hmx] at HT
            go_wp2_with (first | (go_at_call 77; refine (HTO.out _ (by (repeat (first | exact Below.refl _ _ | assumption | (refine Below.alloc ?_ (by first | omega | (simp; omega) | (simp; done)) _) | (refine Below.setCell ?_ (by first | omega | (simp; omega) | (simp; done)) _) | (refine Below.drew ?_) | (refine belowN ?_ _) | (refine Below.trans ?_ (Below.mono ‹Below _ _ _› (by first | omega | (simp; omega) | (simp; done)))))))).mono ?_; rintro _ _ ⟨rfl, rfl⟩) | fail)
            refine bodyPost_ret (v := .tuple #[.int .i64 cn, .int .i64 (t - (s : Int))]) (by first | (simp [results, Try.results51, go_sem]; done) | simp [results, Try.results51, go_sem, hmx]) rfl ?_
            refine ⟨?_, by (repeat (first | exact Below.refl _ _ | assumption | (refine Below.alloc ?_ (by first | omega | (simp; omega) | (simp; done)) _) | (refine Below.setCell ?_ (by first | omega | (simp; omega) | (simp; done)) _) | (refine Below.drew ?_) | (refine belowN ?_ _) | (refine Below.trans ?_ (Below.mono ‹Below _ _ _› (by first | omega | (simp; omega) | (simp; done))))))⟩
            rw [HT.out]
          · have dc : decide (0 < cn) = false := decide_eq_false (by omega)
            have hmx : max 0 cn = 0 := by omega
            rw [hmx] at HT
            go_wp2_with (first | (go_at_call 77; refine (HTO.out _ (by (repeat (first | exact Below.refl _ _ | assumption | (refine Below.alloc ?_ (by first | omega | (simp; omega) | (simp; done)) _) | (refine Below.setCell ?_ (by first | omega | (simp; omega) | (simp; done)) _) | (refine Below.drew ?_) | (refine belowN ?_ _) | (refine Below.trans ?_ (Below.mono ‹Below _ _ _› (by first | omega | (simp; omega) | (simp; done)))))))).mono ?_; rintro _ _ ⟨rfl, rfl⟩) | fail)
            refine bodyPost_ret (v := .tuple #[.int .i64 0, .int .i64 (t - (s : Int))]) (by first | (simp [results, Try.results51, go_sem]; done) | simp [results, Try.results51, go_sem, hmx]) rfl ?_
            refine ⟨?_, by (repeat (first | exact Below.refl _ _ | assumption | (refine Below.alloc ?_ (by first | omega | (simp; omega) | (simp; done)) _) | (refine Below.setCell ?_ (by first | omega | (simp; omega) | (simp; done)) _) | (refine Below.drew ?_) | (refine belowN ?_ _) | (refine Below.trans ?_ (Below.mono ‹Below _ _ _› (by first | omega | (simp; omega) | (simp; done))))))⟩
            rw [HT.out]
    · have e2 : (kd == 3) = false := by simp; exact h3
      obtain ⟨ab, ao, rfl, hblk, hcell, hsl⟩ := (HX.out.ls.below hwb).at_ (k := 0) h0r
      obtain ⟨hg1, hg2⟩ := HGET.out 0 h0r
      obtain ⟨w1', w2, w3⟩ := HRW.out 0 h0r
      have HLS := Lib.hid (fun W (hW : Below w.heap.size w W) => ((HX.out.ls.below hW).row _ (List.getElem_mem h0r)).more hW.size)
      have hr0 : m.rows.getD 0 [] = m.row0 := rfl
      obtain ⟨⟨ra, rc, rl⟩, hrr⟩ : ∃ r, r = rows[0] := ⟨_, rfl⟩
      rw [← hrr] at hcell hsl hg1 w1' w2 w3 HLS
      simp only [Nat.add_zero] at hcell hsl hg1 w1' w2 w3 HLS
      rw [hr0] at hg1
      have hXl : X < rl.length := by omega
      obtain ⟨b2, f2, rfl, hbb2, hc2⟩ := hsl.int_at hXl
      have hbnd := totI_le (r := rl) fun x hx => (w2 x hx).2
      have HTO := Lib.hid (fun W (hW : Below w.heap.size w W) => utotal_any (some ⟨b2, f2, none⟩) rc rl W (by omega) (fun x hx => (w2 x hx).1) (by rw [← totI_sumL]; omega) (HLS.out W hW))
      have HT : Hid (wtI m l k = (rl[X], sumL rl)) := (by
        show _ = _
        rw [wt_else (by rw [HKD.out]; exact hq) (by rw [HKD.out]; exact h3), HXE.out, ← hg1, totI_sumL, Int.toNat_natCast]
        simp [hXl] : _)
      obtain ⟨v, hv⟩ : ∃ v, v = rl[X] := ⟨_, rfl⟩
      rw [← hv] at hc2 HT
      have z4 : (X : Int) < (rl.length : Int) := by omega
      clear hrr hg1 w1' w2 w3 hbnd hv hsl hr0 h3 HKI HGET HRW
      by_cases hkd : kd = 2
      · have e1 : (kd == 2) = true := by simp; exact hkd
        have hk0 : k = 0 := by omega
        have e9 : decide ((0 : Int) < (k : Int)) = false := decide_eq_false (by omega)
        have e8 : decide (0 < k) = false := decide_eq_false (by omega)
        clear hq hkd hk0
        go_wp2
        (refine wp_region_ext (by kernel_rfl) (by kernel_rfl) ?_; (repeat (go_big_quiet_step((first | (go_at_call 77; exact Calls.ext_same (HTO.out _ (bl_ext0 hwb _))) | fail)))); with_reducible refine wpQuiet_nil ?_; intro w1 hw1; have hb1 := ext_below hw1; clear hw1)
        go_wp2
        refine bodyPost_ret (v := .tuple #[.int .i64 v, .int .i64 (sumL rl)]) (by simp [results, Try.results51, go_sem]) rfl ?_
        refine ⟨?_, bl2 hwb hb1⟩
        rw [HT.out]
      · have e1 : (kd == 2) = false := by simp; exact hkd
        clear hq hkd
        go_wp2
        (refine wp_region_ext (by kernel_rfl) (by kernel_rfl) ?_; (repeat (go_big_quiet_step((first | (go_at_call 77; exact Calls.ext_same (HTO.out _ (bl_ext0 hwb _))) | fail)))); with_reducible refine wpQuiet_nil ?_; intro w1 hw1; have hb1 := ext_below hw1; clear hw1)
        go_wp2
        refine bodyPost_ret (v := .tuple #[.int .i64 v, .int .i64 (sumL rl)]) (by simp [results, Try.results51, go_sem]) rfl ?_
        refine ⟨?_, bl2 hwb hb1⟩
        rw [HT.out]
theorem rweight_of (x : Md) (lA : Option Addr) (lc : Nat) (l : List Int) (k : Nat) (w : World) (hmod : ModOk x.m) (hreg : regB x.m.outs l) (hk : k < l.length) (hl : l.length ≤ 1000000) (hx : x.reads w w.heap.size) (hr : Sl intCell 1 w w.heap.size lA l) :
    Calls Try.prog 51 #[.agg #[.int .i64 x.kind, .slice x.a x.rows.length x.c, .int .i64 x.after], .slice lA l.length lc, .int .i64 (k : Int)] w fun e w' => e = .returned (.tuple #[.int .i64 (wtI x.m l k).1, .int .i64 (wtI x.m l k).2]) ∧ Below w.heap.size w w' :=
  rweight_any x.kind x.a x.c x.rows x.after lA lc l k w hmod hreg hk hl hx hr
end Go.Proofs.Ytiikkcifdhcejaa

/- The reference: Sum. -/
import Derived.Test.YtmfbiohdmhbkoaaRb
namespace Go.Proofs.Ytmfbiohdmhbkoaa
open Go.RowKit

theorem fits_e1 {a b : List Int} {m : Int} (h : errW a ≠ 0) : fitsW a b m = errW a := by unfold fitsW; rw [if_pos h]
theorem fits_e2 {a b : List Int} {m : Int} (h : errW a = 0) (h2 : errW b ≠ 0) : fitsW a b m = errW b := by unfold fitsW; rw [if_neg (by simpa using h), if_pos h2]
theorem fits_long {a b : List Int} {m : Int} (h : errW a = 0) (h2 : errW b = 0) (hl : 4096 < m) : fitsW a b m = 5 := by unfold fitsW; rw [if_neg (by simpa using h), if_neg (by simpa using h2), if_pos hl]
theorem fits_over {a b : List Int} {m : Int} (h : errW a = 0) (h2 : errW b = 0) (hl : ¬ 4096 < m) (ho : 1000000000000000 < sumL a * sumL b) : fitsW a b m = 10 := by
  unfold fitsW; rw [if_neg (by simpa using h), if_neg (by simpa using h2), if_neg hl, if_neg (by omega)]
theorem fits_ok {a b : List Int} {m : Int} (h : errW a = 0) (h2 : errW b = 0) (hl : ¬ 4096 < m) (ho : ¬ 1000000000000000 < sumL a * sumL b) : fitsW a b m = 0 := by
  unfold fitsW; rw [if_neg (by simpa using h), if_neg (by simpa using h2), if_neg hl, if_pos (by omega)]
theorem sumR_er {a b : List Int} {e : Int} (h : fitsW a b (a.length + b.length - 1) = e) (he : e ≠ 0) : sumR a b = ([], e) := by unfold sumR; rw [h, if_neg he]
theorem sumR_ok {a b : List Int} (h : fitsW a b (a.length + b.length - 1) = 0) : sumR a b = (conv a b, 0) := by unfold sumR; rw [if_pos h]
theorem joinR_er {a b : List Int} {e : Int} (h : fitsW a b (a.length * b.length) = e) (he : e ≠ 0) : joinR a b = ([], e) := by unfold joinR; rw [h, if_neg he]
theorem joinR_ok {a b : List Int} (h : fitsW a b (a.length * b.length) = 0) : joinR a b = (pairs a b, 0) := by unfold joinR; rw [if_pos h]
theorem overB_true {a b : Int} (h : 1000000000000000 < a * b) : overB a b = true := by simpa [overB] using h
theorem overB_false {a b : Int} (h : ¬ 1000000000000000 < a * b) : overB a b = false := by simpa [overB] using h
set_option maxRecDepth 100000 in
set_option maxHeartbeats 8000000 in
theorem rsum_any (A A2 : Option Addr) (c c2 : Nat) (a b : List Int) (w : World) (hr : Sl intCell 1 w w.heap.size A a) (hr2 : Sl intCell 1 w w.heap.size A2 b) :
    Calls Try.prog 54 #[.slice A a.length c, .slice A2 b.length c2] w (RetSlE (sumR a b).1 (sumR a b).2 w) := by
  have HC1 := Lib.hid (rcheck_any A c a w hr)
  have HC2 := Lib.hid (rcheck_any A2 c2 b w hr2)
  by_cases he1 : errW a = 0
  · by_cases he2 : errW b = 0
    · have o1 := errW_zero.1 he1; have o2 := errW_zero.1 he2
      have la := o1.pos_len; have lb := o2.pos_len
      have lla := o1.len; have llb := o2.len
      have HF := Lib.hid (fun hl => sumR_er (fits_long (m := a.length + b.length - 1) he1 he2 hl) (by decide))
      have HF2 := Lib.hid (fun hl ho => sumR_er (fits_over (m := a.length + b.length - 1) he1 he2 hl ho) (by decide))
      have HF3 := Lib.hid (fun hl ho => sumR_ok (fits_ok (m := a.length + b.length - 1) he1 he2 hl ho))
      have HS1 := Lib.hid (rtotal_any A c a w (by omega) o1.nn (by have := o1.le; omega) hr)
      have HS2 := Lib.hid (rtotal_any A2 c2 b w (by omega) o2.nn (by have := o2.le; omega) hr2)
      have HOV := Lib.hid (fun W => rover_any (sumL a) (sumL b) W (by have := o1.pos; omega) (by have := o2.pos; omega) (by have := o1.le; omega) (by have := o2.le; omega))
      rw [he1] at HC1
      rw [he2] at HC2
      by_cases hlong : 4096 < (a.length : Int) + (b.length : Int) - 1
      · have HT := Lib.hid (HF.out hlong)
        clear HF HF2 HF3 HS1 HS2 HOV hr hr2 he1 he2 o1 o2
        go_enter Try.func54, Try.ntmps54
        go_wp2_with (go_at_call 36; (first | (with_reducible refine HC1.out.mono ?_) | (with_reducible refine HC2.out.mono ?_)); rintro _ _ ⟨rfl, rfl⟩)
        go_ret2
        rw [HT.out]
        exact retSlE_nil (Below.refl _ _)
      · have dl : decide (4096 < (a.length : Int) + (b.length : Int) - 1) = false := by simpa using hlong
        by_cases ho : 1000000000000000 < sumL a * sumL b
        · have HT := Lib.hid (HF2.out hlong ho)
          rw [overB_true ho] at HOV
          obtain ⟨s, hs⟩ : ∃ s, s = sumL a := ⟨_, rfl⟩
          obtain ⟨t, ht⟩ : ∃ t, t = sumL b := ⟨_, rfl⟩
          rw [← hs] at HS1 HOV
          rw [← ht] at HS2 HOV
          clear HF HF2 HF3 hr hr2 he1 he2 o1 o2 ho hs ht hlong
          go_enter Try.func54, Try.ntmps54
          go_wp2_with (first | (go_at_call 36; (first | (with_reducible refine HC1.out.mono ?_) | (with_reducible refine HC2.out.mono ?_)); rintro _ _ ⟨rfl, rfl⟩) | (go_at_call 39; (first | (with_reducible refine HS1.out.mono ?_) | (with_reducible refine HS2.out.mono ?_)); rintro _ _ ⟨rfl, rfl⟩) | (go_at_call 64; refine (HOV.out _).mono ?_; rintro _ w1 ⟨rfl, hb1⟩))
          go_ret2
          rw [HT.out]
          exact retSlE_nil hb1
        · have HT := Lib.hid (HF3.out hlong ho)
          have HP := Lib.hid (fitsPair o1.nn o2.nn (by omega))
          have HB := Lib.hid (fun i j (h1 : i < a.length) (h2 : j ≤ b.length) => Int.le_trans (row_bd o1.nn o2.nn lb (i := i) (j := j) h1 h2) (Int.not_lt.1 ho))
          have HA := Lib.hid o1.nn; have HBN := Lib.hid o2.nn
          rw [overB_false ho] at HOV
          obtain ⟨i0, hi, iz0, iz1, iz2⟩ := info_parts infoInt
          obtain ⟨s, hs⟩ : ∃ s, s = sumL a := ⟨_, rfl⟩
          obtain ⟨t, ht⟩ : ∃ t, t = sumL b := ⟨_, rfl⟩
          rw [← hs] at HS1 HOV
          rw [← ht] at HS2 HOV
          have HR := Lib.hid hr; have HR2 := Lib.hid hr2
          obtain ⟨n, hn⟩ : ∃ n, n = a.length + b.length - 1 := ⟨_, rfl⟩
          have hni : (a.length : Int) + (b.length : Int) - 1 = (n : Int) := by omega
          have HN := Lib.hid hni
          have HNN := Lib.hid hn
          have hn4 : n ≤ 4096 := by omega
          clear HF HF2 HF3 hr hr2 he1 he2 o1 o2 ho hs ht hlong hn hni
          go_enter Try.func54, Try.ntmps54
          go_wp2_with (first | (go_at_call 36; (first | (with_reducible refine HC1.out.mono ?_) | (with_reducible refine HC2.out.mono ?_)); rintro _ _ ⟨rfl, rfl⟩) | (go_at_call 39; (first | (with_reducible refine HS1.out.mono ?_) | (with_reducible refine HS2.out.mono ?_)); rintro _ _ ⟨rfl, rfl⟩) | (go_at_call 64; refine (HOV.out _).mono ?_; rintro _ w1 ⟨rfl, hb1⟩) |
            (at_make; refine wpList_make_arr _ rfl _ _ rfl i0 uInts hi iz0 iz1 iz2 .i64 .i64 _ _ n rfl rfl HN.out HN.out (by omega) ?_; intro w2 ha2 hb2))
          have hw2 : Below w.heap.size w w2 := bl2 hb1 hb2
          have hgw : w.heap.size ≤ w1.heap.size := hb1.size
          have ha0 : Hid (Arr w2 w1.heap.size (convTo a b 0)) := (by show Arr _ _ (List.replicate (a.length + b.length - 1) 0); rw [← HNN.out]; exact ha2 : Arr w2 w1.heap.size (convTo a b 0))
          obtain ⟨g, hg⟩ : ∃ g, g = w1.heap.size := ⟨_, rfl⟩
          rw [← hg] at ha0 hgw ⊢
          clear ha2 hg hb2 hb1 HC1 HC2 HS1 HS2 HOV
          refine Lib.hid ?_
          go_wp2
          go_loopw [9, 10] (fun i _ wr => ∃ k : Nat, k ≤ a.length ∧ i = .int .i64 k ∧ Hid (Arr wr g (convTo a b k)) ∧ Below w.heap.size w wr) (fun i _ _ => a.length - (intOf i).toNat)
          case atStart => exact ⟨0, by omega, rfl, ha0, hw2⟩
          case round =>
            obtain ⟨k, hk, rfl, HA1, hbr⟩ := hrel
            by_cases hka : k < a.length
            · have HRow0 : Hid (Arr wr g (rowTo (convTo a b k) (a.getD k 0) b k 0)) := HA1
              clear HA1
              rename World => wo
              go_wp2
              go_loopw [10] (fun j wr => ∃ m : Nat, m ≤ b.length ∧ j = .int .i64 m ∧ Hid (Arr wr g (rowTo (convTo a b k) (a.getD k 0) b k m)) ∧ Below w.heap.size w wr) (fun j _ => b.length - (intOf j).toNat)
              case atStart => exact ⟨0, by omega, rfl, HRow0, hbr⟩
              case round =>
                obtain ⟨m, hm, rfl, HA1, hbr⟩ := hrel
                by_cases hmb : m < b.length
                · obtain ⟨xb, xo, rfl, hxb, cx⟩ := (HR.out.below hbr).int_at hka
                  obtain ⟨zb, zo, rfl, hzb, cz⟩ := (HR2.out.below hbr).int_at hmb
                  have hL := rowTo_nn (x := a.getD k 0) (i := k) (convTo_nn HA.out HBN.out k) (by have := HA.out _ (List.getElem_mem hka); simp [hka]; exact this) HBN.out m
                  have hrl : (rowTo (convTo a b k) (a.getD k 0) b k m).length = n := by rw [rowTo_len, convTo_len, HNN.out]
                  have hpos : k + m < (rowTo (convTo a b k) (a.getD k 0) b k m).length := by rw [hrl, HNN.out]; omega
                  have e1 : a.getD k 0 = a[k] := by simp [hka]
                  have e2 : b.getD m 0 = b[m] := by simp [hmb]
                  have hx := HP.out a[k] (List.getElem_mem hka) b[m] (List.getElem_mem hmb)
                  have hnx : bump (rowTo (convTo a b k) (a.getD k 0) b k m) (k + m) (a[k] * b[m]) = rowTo (convTo a b k) (a.getD k 0) b k (m + 1) := by simp only [rowTo, e1, e2]
                  have hbd := HB.out k (m + 1) hka (by omega)
                  have hmem : (rowTo (convTo a b k) (a.getD k 0) b k m).getD (k + m) 0 + a[k] * b[m] ∈ rowTo (convTo a b k) (a.getD k 0) b k (m + 1) := by
                    rw [← hnx]; exact List.mem_set hpos _
                  have hnn1 := rowTo_nn (x := a.getD k 0) (i := k) (convTo_nn HA.out HBN.out k) (by have := HA.out _ (List.getElem_mem hka); simp [hka]; exact this) HBN.out (m + 1)
                  obtain ⟨q, hq, hqe⟩ := List.mem_iff_getElem.1 hmem
                  have hle := le_sumL hnn1 hq
                  have hy0 := hL _ (List.getElem_mem hpos)
                  have e3 : (rowTo (convTo a b k) (a.getD k 0) b k m).getD (k + m) 0 = (rowTo (convTo a b k) (a.getD k 0) b k m)[k + m] := by rw [List.getD_eq_getElem?_getD, List.getElem?_eq_getElem hpos]; rfl
                  have HNX : Hid (rowTo (convTo a b k) (a.getD k 0) b k (m + 1) = (rowTo (convTo a b k) (a.getD k 0) b k m).set (k + m) ((rowTo (convTo a b k) (a.getD k 0) b k m)[k + m] + a[k] * b[m])) := (by rw [← hnx, ← e3]; rfl : rowTo (convTo a b k) (a.getD k 0) b k (m + 1) = _)
                  have ca := HA1.out.at_ hpos
                  have fa := Blk.free HA1.out (k + m)
                  have hs1 : (rowTo (convTo a b k) (a.getD k 0) b k m)[k + m] + a[k] * b[m] ≤ 1000000000000000 := by rw [← e3]; omega
                  obtain ⟨y, hy⟩ : ∃ y, y = (rowTo (convTo a b k) (a.getD k 0) b k m)[k + m] := ⟨_, rfl⟩
                  obtain ⟨x, hx'⟩ : ∃ x, x = a[k] := ⟨_, rfl⟩
                  obtain ⟨z, hz'⟩ : ∃ z, z = b[m] := ⟨_, rfl⟩
                  rw [← hy] at ca hy0 hs1 HNX
                  rw [← hx'] at cx hx hs1 HNX
                  rw [← hz'] at cz hx hs1 HNX
                  obtain ⟨p0, p1⟩ := hx
                  have s0 : 0 ≤ y + x * z := by omega
                  have k0 : (0 : Int) ≤ (k : Int) + (m : Int) := by omega
                  have k1 : (k : Int) + (m : Int) < (n : Int) := by have := hpos; rw [hrl] at this; omega
                  have k2 : ((k : Int) + (m : Int)).toNat = k + m := by omega
                  have j0 : (0 : Int) ≤ (k : Int) := by omega
                  have j1 : (k : Int) < (a.length : Int) := by omega
                  have j2 : (0 : Int) ≤ (m : Int) := by omega
                  have j3 : (m : Int) < (b.length : Int) := by omega
                  clear hy hx' hz' e1 e2 e3 hL hrl hpos hnx hbd hmem hnn1 hq hqe hle
                  go_wp2
                  go_region
                  all_goals (
                    go_wp2
                    go_roundw
                    case rel => exact ⟨m + 1, by omega, by go_num, (by rw [HNX.out]; exact HA1.out.put (k + m) _ : Arr _ g _), by (repeat (first | exact Below.refl _ _ | assumption | (refine Below.alloc ?_ (by first | omega | (simp; omega) | (simp; done)) _) | (refine Below.setCell ?_ (by first | omega | (simp; omega) | (simp; done)) _) | (refine Below.drew ?_) | (refine belowN ?_ _) | (refine Below.trans ?_ (Below.mono ‹Below _ _ _› (by first | omega | (simp; omega) | (simp; done))))))⟩
                    case measure => simp [intOf] <;> omega)
                · obtain rfl : m = b.length := by omega
                  go_wp2
                  go_roundw
                  case rel => exact ⟨k + 1, by omega, by go_num, HA1, hbr⟩
                  case measure => simp [intOf]; omega
            · obtain rfl : k = a.length := by omega
              go_wp2
              go_ret2
              rw [HT.out]
              exact RetSlE.of_arr HA1.out (by show n = (conv a b).length; rw [conv_len]; exact HNN.out) hbr
    · have HT := Lib.hid (sumR_er (fits_e2 (m := a.length + b.length - 1) he1 he2) he2)
      have hb : (errW b != 0) = true := by simpa using he2
      rw [he1] at HC1
      obtain ⟨ev, hev⟩ : ∃ ev, ev = errW b := ⟨_, rfl⟩
      rw [← hev] at HC2 hb HT
      clear he1 he2 hr hr2 hev
      go_enter Try.func54, Try.ntmps54
      go_wp2_with (go_at_call 36; (first | (with_reducible refine HC1.out.mono ?_) | (with_reducible refine HC2.out.mono ?_)); rintro _ _ ⟨rfl, rfl⟩)
      go_ret2
      rw [HT.out]
      exact retSlE_nil (Below.refl _ _)
  · have HT := Lib.hid (sumR_er (fits_e1 (b := b) (m := a.length + b.length - 1) he1) he1)
    have hb : (errW a != 0) = true := by simpa using he1
    obtain ⟨ev, hev⟩ : ∃ ev, ev = errW a := ⟨_, rfl⟩
    rw [← hev] at HC1 hb HT
    clear he1 hr hr2 hev HC2
    go_enter Try.func54, Try.ntmps54
    go_wp2_with (go_at_call 36; refine HC1.out.mono ?_; rintro _ _ ⟨rfl, rfl⟩)
    go_ret2
    rw [HT.out]
    exact retSlE_nil (Below.refl _ _)
end Go.Proofs.Ytmfbiohdmhbkoaa

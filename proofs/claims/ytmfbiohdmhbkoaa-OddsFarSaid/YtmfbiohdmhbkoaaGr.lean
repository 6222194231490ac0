/- odds: Map. -/
import Derived.Test.YtmfbiohdmhbkoaaGn
import Derived.Test.YtmfbiohdmhbkoaaGo
namespace Go.Proofs.Ytmfbiohdmhbkoaa
open Go.RowKit

theorem ent_map1 : Ent 68 := ent_of Try.func68 (by kernel_rfl) rfl
theorem map1_any (k n : Int) (sb : Nat) (W : World) (g : Blk W sb #[.int .i64 n] 3) : Calls Try.prog 68 (#[.int .i64 k] ++ #[.pointer (some ⟨sb, 0, none⟩)]) W fun e W' => e = .returned (.bool (outB n k)) ∧ Below W.heap.size W W' := by
  have c0 := g.cell 0
  simp at c0
  clear g
  by_cases h : k < 0
  · have d : decide (k < 0) = true := by simpa using h
    have HT : Hid (outB n k = true) := (by simp [outB, h] : outB n k = true)
    clear h
    go_enter Try.func68, Try.ntmps68
    go_wp2
    go_ret
    exact ⟨ret_bool HT.out.symm, Below.refl _ _⟩
  · have d : decide (k < 0) = false := by simpa using h
    have HT : Hid (outB n k = decide (n ≤ k)) := (by simp [outB, d] : outB n k = _)
    clear h
    go_enter Try.func68, Try.ntmps68
    go_wp2
    go_ret
    exact ⟨ret_bool HT.out.symm, Below.refl _ _⟩
theorem mapR_err {w to : List Int} {n : Int} (h : errW w ≠ 0) : mapR w to n = ([], errW w) := by unfold mapR; rw [if_pos h]
theorem mapR_range {w to : List Int} {n : Int} (h : errW w = 0) (hn : n < 1 ∨ 4096 < n) : mapR w to n = ([], 3) := by unfold mapR; rw [if_neg (fun hh => hh h), if_pos hn]
theorem mapR_arg {w to : List Int} {n : Int} (h : errW w = 0) (hn : ¬ (n < 1 ∨ 4096 < n)) (ha : to.length ≠ w.length ∨ to.any (outB n) = true) : mapR w to n = ([], 2) := by unfold mapR; rw [if_neg (fun hh => hh h), if_neg hn, if_pos ha]
theorem mapR_ok {w to : List Int} {n : Int} (h : errW w = 0) (hn : ¬ (n < 1 ∨ 4096 < n)) (ha : ¬ (to.length ≠ w.length ∨ to.any (outB n) = true)) : mapR w to n = (mapTo w to n.toNat w.length, 0) := by unfold mapR; rw [if_neg (fun hh => hh h), if_neg hn, if_neg ha]
set_option maxRecDepth 100000 in
set_option maxHeartbeats 8000000 in
theorem map_any (A A2 : Option Addr) (c c2 : Nat) (l to : List Int) (n : Int) (w : World) (hm : l.length ≤ 1000000000) (hm2 : to.length ≤ 1000000) (hr : Sl intCell 1 w w.heap.size A l) (hr2 : Sl intCell 1 w w.heap.size A2 to) :
    Calls Try.prog 25 #[.slice A l.length c, .slice A2 to.length c2, .int .i64 n] w (RetSlE (mapR l to n).1 (mapR l to n).2 w) := by
  have HC := Lib.hid (fun W (hW : Below w.heap.size w W) => check_any A c l W hm ((hr.below hW).more hW.size))
  by_cases he : errW l = 0
  · have ok := errW_zero.1 he
    have HE := Lib.hid he
    by_cases hn : n < 1 ∨ 4096 < n
    · have HT := Lib.hid (mapR_range (to := to) he hn)
      clear hr hr2 he ok
      by_cases h1 : n < 1
      · clear hn
        go_enter Try.func25, Try.ntmps25
        go_wp2_with (go_at_call 31; refine (HC.out _ (by (repeat (first | exact Below.refl _ _ | assumption | (refine Below.alloc ?_ (by first | omega | (simp; omega) | (simp; done)) _) | (refine Below.setCell ?_ (by first | omega | (simp; omega) | (simp; done)) _) | (refine Below.drew ?_) | (refine belowN ?_ _) | (refine Below.trans ?_ (Below.mono ‹Below _ _ _› (by first | omega | (simp; omega) | (simp; done)))))))).mono ?_; rintro _ _ ⟨rfl, rfl⟩; rw [HE.out])
        go_ret2
        rw [HT.out]
        exact retSlE_nil (by (repeat (first | exact Below.refl _ _ | assumption | (refine Below.alloc ?_ (by first | omega | (simp; omega) | (simp; done)) _) | (refine Below.setCell ?_ (by first | omega | (simp; omega) | (simp; done)) _) | (refine Below.drew ?_) | (refine belowN ?_ _) | (refine Below.trans ?_ (Below.mono ‹Below _ _ _› (by first | omega | (simp; omega) | (simp; done)))))))
      · have d1 : decide (n < 1) = false := by simpa using h1
        have d2 : decide (4096 < n) = true := by simp; omega
        clear hn h1
        go_enter Try.func25, Try.ntmps25
        go_wp2_with (go_at_call 31; refine (HC.out _ (by (repeat (first | exact Below.refl _ _ | assumption | (refine Below.alloc ?_ (by first | omega | (simp; omega) | (simp; done)) _) | (refine Below.setCell ?_ (by first | omega | (simp; omega) | (simp; done)) _) | (refine Below.drew ?_) | (refine belowN ?_ _) | (refine Below.trans ?_ (Below.mono ‹Below _ _ _› (by first | omega | (simp; omega) | (simp; done)))))))).mono ?_; rintro _ _ ⟨rfl, rfl⟩; rw [HE.out])
        go_ret2
        rw [HT.out]
        exact retSlE_nil (by (repeat (first | exact Below.refl _ _ | assumption | (refine Below.alloc ?_ (by first | omega | (simp; omega) | (simp; done)) _) | (refine Below.setCell ?_ (by first | omega | (simp; omega) | (simp; done)) _) | (refine Below.drew ?_) | (refine belowN ?_ _) | (refine Below.trans ?_ (Below.mono ‹Below _ _ _› (by first | omega | (simp; omega) | (simp; done)))))))
    · have d1 : decide (n < 1) = false := by simp; omega
      have d2 : decide (4096 < n) = false := by simp; omega
      have n0 : 1 ≤ n := by omega
      have n1 : n ≤ 4096 := by omega
      by_cases hlen : to.length = l.length
      · have hne : ((to.length : Int) != (l.length : Int)) = false := by simp [hlen]
        have HA := Lib.hid (fun W sb (hW : Below w.heap.size w W) (g : Blk W sb #[.int .i64 n] 3) => intsany_any 68 #[.pointer (some ⟨sb, 0, none⟩)] A2 c2 to (outB n) W ent_map1 (by omega) ((hr2.below hW).more hW.size) (fun t ht W' hb => map1_any t n sb W' (g.below hb g.lt)))
        by_cases hany : to.any (outB n) = true
        · have HT := Lib.hid (mapR_arg (to := to) he hn (.inr hany))
          rw [hany] at HA
          clear hr hr2 he ok hn hany hlen
          go_enter Try.func25, Try.ntmps25
          go_wp2_with (first | (go_at_call 31; refine (HC.out _ (by (repeat (first | exact Below.refl _ _ | assumption | (refine Below.alloc ?_ (by first | omega | (simp; omega) | (simp; done)) _) | (refine Below.setCell ?_ (by first | omega | (simp; omega) | (simp; done)) _) | (refine Below.drew ?_) | (refine belowN ?_ _) | (refine Below.trans ?_ (Below.mono ‹Below _ _ _› (by first | omega | (simp; omega) | (simp; done)))))))).mono ?_; rintro _ _ ⟨rfl, rfl⟩; rw [HE.out]) | (go_at_call 65; refine (HA.out _ _ (by (repeat (first | exact Below.refl _ _ | assumption | (refine Below.alloc ?_ (by first | omega | (simp; omega) | (simp; done)) _) | (refine Below.setCell ?_ (by first | omega | (simp; omega) | (simp; done)) _) | (refine Below.drew ?_) | (refine belowN ?_ _) | (refine Below.trans ?_ (Below.mono ‹Below _ _ _› (by first | omega | (simp; omega) | (simp; done))))))) (Blk.at_ rfl)).mono ?_; rintro _ w2 ⟨rfl, hb2⟩))
          go_ret2
          rw [HT.out]
          exact retSlE_nil (bl3 (Below.refl _ _) hb2)
        · have HT := Lib.hid (mapR_ok (to := to) he hn (fun h => h.elim (fun h => h hlen) hany))
          have hok : ∀ x ∈ to, 0 ≤ x ∧ x < n := fun x hx => by
            have h := hany
            rw [Bool.not_eq_true, List.any_eq_false] at h
            have := h x hx
            simp [outB] at this
            omega
          simp only [Bool.not_eq_true] at hany
          rw [hany] at HA
          obtain ⟨i0, hi, iz0, iz1, iz2⟩ := info_parts infoInt
          obtain ⟨N, rfl⟩ := Int.eq_ofNat_of_zero_le (a := n) (by omega)
          have hl4 := ok.len
          have HOK := Lib.hid hok
          have HSUM := Lib.hid (fun k h => mapTo_sum hok hlen k h)
          have HNN := Lib.hid (fun k => mapTo_nn (w := l) (to := to) (n := N) ok.nn k)
          have HLE := Lib.hid (fun k => Int.le_trans (sumL_take_le ok.nn k).2 ok.le)
          have HWN := Lib.hid ok.nn
          have hlt : to.length ≤ l.length ∧ l.length ≤ to.length := by omega
          obtain ⟨hlt1, hlt2⟩ := hlt
          rw [Int.toNat_natCast] at HT
          have HR := Lib.hid hr; have HR2 := Lib.hid hr2
          have H0 : Hid (mapTo l to N 0 = List.replicate N 0) := (rfl : mapTo l to N 0 = List.replicate N 0)
          clear hr hr2 he ok hn hany hlen hok
          go_enter Try.func25, Try.ntmps25
          go_wp2_with (first | (go_at_call 31; refine (HC.out _ (by (repeat (first | exact Below.refl _ _ | assumption | (refine Below.alloc ?_ (by first | omega | (simp; omega) | (simp; done)) _) | (refine Below.setCell ?_ (by first | omega | (simp; omega) | (simp; done)) _) | (refine Below.drew ?_) | (refine belowN ?_ _) | (refine Below.trans ?_ (Below.mono ‹Below _ _ _› (by first | omega | (simp; omega) | (simp; done)))))))).mono ?_; rintro _ _ ⟨rfl, rfl⟩; rw [HE.out]) | (go_at_call 65; refine (HA.out _ _ (by (repeat (first | exact Below.refl _ _ | assumption | (refine Below.alloc ?_ (by first | omega | (simp; omega) | (simp; done)) _) | (refine Below.setCell ?_ (by first | omega | (simp; omega) | (simp; done)) _) | (refine Below.drew ?_) | (refine belowN ?_ _) | (refine Below.trans ?_ (Below.mono ‹Below _ _ _› (by first | omega | (simp; omega) | (simp; done))))))) (Blk.at_ rfl)).mono ?_; rintro _ w2 ⟨rfl, hb2⟩; have gN : Blk w2 w.heap.size #[.int .i64 N] 3 := (Blk.at_ rfl).below hb2 (by simp); have c0 := gN.cell 0; simp at c0; have hw2 : Below w.heap.size w w2 := bl3 (Below.refl _ _) hb2) |
            (at_make; refine wpList_make_arr _ rfl _ _ rfl i0 uInts hi iz0 iz1 iz2 .i64 .i64 _ _ N rfl rfl rfl rfl (by omega) ?_; intro w3 ha3 hb3))
          have hw3 := bl2 hw2 hb3
          have hz2 := gN.lt
          have hz3 := hb3.size
          obtain ⟨b, hb⟩ : ∃ b, b = w2.heap.size := ⟨_, rfl⟩
          rw [← hb] at ha3 ⊢
          have hbw : w.heap.size ≤ b := by omega
          have ha0 : Hid (Arr w3 b (mapTo l to N 0)) := (by rw [H0.out]; exact ha3 : Arr w3 b _)
          clear ha3 hb2 hb3 hb hz2 hz3 gN c0 hw2 HC HA
          refine Lib.hid ?_
          go_wp2
          go_loopw [41] (fun i wr => ∃ k : Nat, k ≤ l.length ∧ i = .int .i64 k ∧ Hid (Arr wr b (mapTo l to N k)) ∧ Below w.heap.size w wr) (fun i _ => l.length - (intOf i).toNat)
          case atStart => exact ⟨0, by omega, rfl, ha0, hw3⟩
          case round =>
            obtain ⟨k, hk, rfl, HA, hbr⟩ := hrel
            by_cases hkl : k < l.length
            · have hkt : k < to.length := by omega
              obtain ⟨xb, xo, rfl, hxb, cx⟩ := (HR.out.below hbr).int_at hkl
              obtain ⟨tb, tO, rfl, htb, ct⟩ := (HR2.out.below hbr).int_at hkt
              obtain ⟨t0, t1⟩ := HOK.out _ (List.getElem_mem hkt)
              obtain ⟨T, hT⟩ := Int.eq_ofNat_of_zero_le t0
              have hTN : T < N := by omega
              have x0 := HWN.out _ (List.getElem_mem hkl)
              have hlenM : (mapTo l to N k).length = N := mapTo_len l to N k
              have HBE : Hid (mapTo l to N (k + 1) = (mapTo l to N k).set T ((mapTo l to N k)[T]'(by omega) + l[k])) := (by
                show bump (mapTo l to N k) (to.getD k 0).toNat (l.getD k 0) = _
                have e1 : to.getD k 0 = (T : Int) := by simp [hkt, hT]
                have e2 : l.getD k 0 = l[k] := by simp [hkl]
                rw [e1, e2, Int.toNat_natCast]
                unfold bump
                congr 2
                simp [show T < (mapTo l to N k).length by omega] : mapTo l to N (k + 1) = _)
              have y0 := HNN.out k _ (List.getElem_mem (show T < (mapTo l to N k).length by omega))
              have hbd : (mapTo l to N k)[T]'(by omega) + l[k] ≤ 1000000000000000 := by
                have h1 : (mapTo l to N k)[T]'(by omega) + l[k] ∈ mapTo l to N (k + 1) := by
                  rw [HBE.out]; exact List.mem_set (by omega) _
                obtain ⟨j, hj, hje⟩ := List.mem_iff_getElem.1 h1
                have h2 := le_sumL (HNN.out (k + 1)) hj
                have h3 := HSUM.out (k + 1) (by omega)
                have h4 := HLE.out (k + 1)
                omega
              have ca := HA.out.at_ (j := T) (by omega)
              have fa := Blk.free HA.out T
              obtain ⟨y, hy⟩ : ∃ y, y = (mapTo l to N k)[T]'(by omega) := ⟨_, rfl⟩
              obtain ⟨x, hx⟩ : ∃ x, x = l[k] := ⟨_, rfl⟩
              rw [← hy] at ca y0 hbd HBE
              rw [← hx] at cx x0 hbd HBE
              rw [hT] at ct
              have hT0 : (0 : Int) ≤ (T : Int) := by omega
              have hT1 : (T : Int) < (N : Int) := by omega
              clear hy hx hT t0 t1 hlenM
              go_wp2
              go_roundw
              case rel => exact ⟨k + 1, by omega, by go_num, (by rw [HBE.out]; exact HA.out.put T _ : Arr _ b _), hbr.setCell (p := ⟨b, T, none⟩) hbw _⟩
              case measure => simp [intOf]; omega
            · obtain rfl : k = l.length := by omega
              have HML := Lib.hid (mapTo_len l to N l.length)
              go_wp2
              go_ret2
              rw [HT.out]
              exact RetSlE.of_arr HA.out HML.out.symm hbr
      · have hne : ((to.length : Int) != (l.length : Int)) = true := by simp; omega
        have HT := Lib.hid (mapR_arg (to := to) he hn (.inl hlen))
        clear hr hr2 he ok hn hlen
        go_enter Try.func25, Try.ntmps25
        go_wp2_with (go_at_call 31; refine (HC.out _ (by (repeat (first | exact Below.refl _ _ | assumption | (refine Below.alloc ?_ (by first | omega | (simp; omega) | (simp; done)) _) | (refine Below.setCell ?_ (by first | omega | (simp; omega) | (simp; done)) _) | (refine Below.drew ?_) | (refine belowN ?_ _) | (refine Below.trans ?_ (Below.mono ‹Below _ _ _› (by first | omega | (simp; omega) | (simp; done)))))))).mono ?_; rintro _ _ ⟨rfl, rfl⟩; rw [HE.out])
        go_ret2
        rw [HT.out]
        exact retSlE_nil (by (repeat (first | exact Below.refl _ _ | assumption | (refine Below.alloc ?_ (by first | omega | (simp; omega) | (simp; done)) _) | (refine Below.setCell ?_ (by first | omega | (simp; omega) | (simp; done)) _) | (refine Below.drew ?_) | (refine belowN ?_ _) | (refine Below.trans ?_ (Below.mono ‹Below _ _ _› (by first | omega | (simp; omega) | (simp; done)))))))
  · have hb : (errW l != 0) = true := by simpa using he
    have HT := Lib.hid (mapR_err (to := to) (n := n) he)
    obtain ⟨ev, hev⟩ : ∃ ev, ev = errW l := ⟨_, rfl⟩
    rw [← hev] at HC hb HT
    clear he hr hr2 hev
    go_enter Try.func25, Try.ntmps25
    go_wp2_with (go_at_call 31; refine (HC.out _ (by (repeat (first | exact Below.refl _ _ | assumption | (refine Below.alloc ?_ (by first | omega | (simp; omega) | (simp; done)) _) | (refine Below.setCell ?_ (by first | omega | (simp; omega) | (simp; done)) _) | (refine Below.drew ?_) | (refine belowN ?_ _) | (refine Below.trans ?_ (Below.mono ‹Below _ _ _› (by first | omega | (simp; omega) | (simp; done)))))))).mono ?_; rintro _ _ ⟨rfl, rfl⟩)
    go_ret2
    rw [HT.out]
    exact retSlE_nil (by (repeat (first | exact Below.refl _ _ | assumption | (refine Below.alloc ?_ (by first | omega | (simp; omega) | (simp; done)) _) | (refine Below.setCell ?_ (by first | omega | (simp; omega) | (simp; done)) _) | (refine Below.drew ?_) | (refine belowN ?_ _) | (refine Below.trans ?_ (Below.mono ‹Below _ _ _› (by first | omega | (simp; omega) | (simp; done)))))))
end Go.Proofs.Ytmfbiohdmhbkoaa

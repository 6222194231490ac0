/- The reference: Pick, Map. -/
import Derived.Test.YtmfbiohdmhbkoaaRb
import Derived.Test.YtmfbiohdmhbkoaaGp
import Derived.Test.YtmfbiohdmhbkoaaGr
namespace Go.Proofs.Ytmfbiohdmhbkoaa
open Go.RowKit

theorem pickK_drop {l : List Int} {k : Nat} (h : k < l.length) (u : Int) : pickK (l.drop k) u = if u < l[k] then 0 else pickK (l.drop (k + 1)) (u - l[k]) + 1 := by
  rw [List.drop_eq_getElem_cons h]; rfl
theorem sumL_drop {l : List Int} {k : Nat} (h : k < l.length) : sumL (l.drop k) = l[k] + sumL (l.drop (k + 1)) := by rw [List.drop_eq_getElem_cons h, sumL_cons]
set_option maxRecDepth 100000 in
set_option maxHeartbeats 4000000 in
theorem rpick_any (A : Option Addr) (c : Nat) (l : List Int) (v : Int) (w : World) (hr : Sl intCell 1 w w.heap.size A l) :
    Calls Try.prog 28 #[.slice A l.length c, .int .i64 v] w (Ret2 (pickR l v).1 (pickR l v).2 w) := by
  have HC := Lib.hid (rcheck_any A c l w hr)
  by_cases he : errW l = 0
  · have ok := errW_zero.1 he
    have HS := Lib.hid (rtotal_any A c l w (by have := ok.len; omega) ok.nn (by have := ok.le; omega) hr)
    have hsl := ok.le
    by_cases hv : v < 0 ∨ sumL l ≤ v
    · have HT := Lib.hid (pickR_range he hv)
      rw [he] at HC
      clear hr he ok
      by_cases h1 : v < 0
      · clear hv
        go_enter Try.func28, Try.ntmps28
        go_wp2_with (go_at_call 36; refine HC.out.mono ?_; rintro _ _ ⟨rfl, rfl⟩)
        go_ret2
        rw [HT.out]
        exact ⟨rfl, Below.refl _ _⟩
      · have d1 : decide (v < 0) = false := by simpa using h1
        have d2 : decide (sumL l ≤ v) = true := by simp; omega
        obtain ⟨s, hs⟩ : ∃ s, s = sumL l := ⟨_, rfl⟩
        rw [← hs] at HS d2
        clear hv h1 hsl hs
        go_enter Try.func28, Try.ntmps28
        go_wp2_with (first | (go_at_call 36; refine HC.out.mono ?_; rintro _ _ ⟨rfl, rfl⟩) | (go_at_call 39; refine HS.out.mono ?_; rintro _ _ ⟨rfl, rfl⟩))
        go_ret2
        rw [HT.out]
        exact ⟨rfl, Below.refl _ _⟩
    · have HT := Lib.hid (pickR_ok he hv)
      have d1 : decide (v < 0) = false := by simp; omega
      have d2 : decide (sumL l ≤ v) = false := by simp; omega
      have v0 : 0 ≤ v := by omega
      have v1 : v < sumL l := by omega
      have HA := Lib.hid ok.nn
      have hl4 := ok.len
      have HR := Lib.hid hr
      have h0 : Hid (pickK l v = 0 + pickK (l.drop 0) v) := (by simp : pickK l v = 0 + pickK (l.drop 0) v)
      have h1 : v < sumL (l.drop 0) := v1
      have h2 : ∀ k, sumL (l.drop k) ≤ 1000000000000000 := fun k => by
        have e := sumL_split l k
        have := (sumL_take_le ok.nn k).1
        omega
      have H2 := Lib.hid h2
      obtain ⟨s, hs⟩ : ∃ s, s = sumL l := ⟨_, rfl⟩
      rw [← hs] at HS d2
      rw [he] at HC
      clear hr he ok hv hsl v1 hs h2
      go_enter Try.func28, Try.ntmps28
      go_wp2_with (first | (go_at_call 36; refine HC.out.mono ?_; rintro _ _ ⟨rfl, rfl⟩) | (go_at_call 39; refine HS.out.mono ?_; rintro _ _ ⟨rfl, rfl⟩))
      go_loop [1, 7] (fun u' i => ∃ (k : Nat) (u : Int), k ≤ l.length ∧ i = .int .i64 k ∧ u' = .int .i64 u ∧ 0 ≤ u ∧ u < sumL (l.drop k) ∧ Hid (pickK l v = k + pickK (l.drop k) u)) (fun _ i => l.length - (intOf i).toNat)
      case atStart => exact ⟨0, v, by omega, rfl, rfl, v0, h1, h0⟩
      case round =>
        clear h0 h1
        obtain ⟨k, u, hk, rfl, rfl, u0, u1, HP⟩ := hrel
        by_cases hlt : k < l.length
        · obtain ⟨b, o, rfl, hb, hc⟩ := HR.out.int_at hlt
          have HD := Lib.hid (pickK_drop hlt u)
          have x0 := HA.out _ (List.getElem_mem hlt)
          have hs1 := sumL_drop hlt
          have hs2 := H2.out k
          obtain ⟨x, hx⟩ : ∃ x, x = l[k] := ⟨_, rfl⟩
          rw [← hx] at hc HD x0 hs1
          have u2 : u ≤ 1000000000000000 := by omega
          have hn : ¬ u < x → u - x < sumL (l.drop (k + 1)) := fun _ => by omega
          clear hx hs1 hs2 u1
          by_cases hux : u < x
          · have HF : Hid ((pickK l v : Int) = (k : Int)) := (by rw [HP.out, HD.out, if_pos hux]; rfl : (pickK l v : Int) = (k : Int))
            clear hn
            go_wp2
            go_ret2
            rw [HT.out, HF.out]
            exact ⟨rfl, Below.refl _ _⟩
          · have HF : Hid (pickK l v = (k + 1) + pickK (l.drop (k + 1)) (u - x)) := (by rw [HP.out, HD.out, if_neg hux]; omega : pickK l v = _)
            have e0 : decide (u < x) = false := by simpa using hux
            have hn := hn hux
            have y0 : 0 ≤ u - x := by omega
            clear hux
            go_wp2
            go_round
            case rel => exact ⟨k + 1, u - x, by omega, by go_num, rfl, y0, hn, HF⟩
            case measure => simp [intOf]; omega
        · exfalso
          have : k = l.length := by omega
          subst this
          rw [List.drop_length] at u1
          simp [sumL] at u1
          omega
  · have hb : (errW l != 0) = true := by simpa using he
    have HT := Lib.hid (pickR_bad (v := v) he)
    obtain ⟨ev, hev⟩ : ∃ ev, ev = errW l := ⟨_, rfl⟩
    rw [← hev] at HC hb HT
    clear he hr hev
    go_enter Try.func28, Try.ntmps28
    go_wp2_with (go_at_call 36; refine HC.out.mono ?_; rintro _ _ ⟨rfl, rfl⟩)
    go_ret2
    rw [HT.out]
    exact ⟨rfl, Below.refl _ _⟩
theorem outB_any {to : List Int} {n : Int} {k : Nat} (hk : k < to.length) (h : to[k] < 0 ∨ n ≤ to[k]) : to.any (outB n) = true := List.any_eq_true.2 ⟨to[k], List.getElem_mem hk, by simp [outB]; omega⟩
theorem outB_none {to : List Int} {n : Int} (h : ∀ x ∈ to, 0 ≤ x ∧ x < n) : ¬ to.any (outB n) = true := by
  rw [Bool.not_eq_true, List.any_eq_false]
  intro x hx
  have := h x hx
  simp [outB]; omega
/-- the partial sums of a map stay below the whole, as far as the places are good -/
theorem mapTo_bd {w to : List Int} {n : Nat} (hw : ∀ x ∈ w, 0 ≤ x) (hl : to.length = w.length) : ∀ k, k ≤ w.length → (∀ x ∈ to.take k, 0 ≤ x ∧ x < n) → sumL (mapTo w to n k) = sumL (w.take k)
  | 0, _, _ => by simp only [mapTo, List.take_zero]; rw [← ev_one, ev_zero]; rfl
  | k + 1, hk, ht => by
    have hk' : k < to.length := by omega
    have e := ht (to[k]) (by rw [take_snoc_int to k hk']; exact List.mem_append_right _ (List.mem_singleton.2 rfl))
    have e1 : to.getD k 0 = to[k] := by simp [hk']
    have e2 : w.getD k 0 = w[k]'(by omega) := by simp [show k < w.length by omega]
    simp only [mapTo]
    rw [← ev_one, ev_bump 1 _ _ _ (by rw [mapTo_len, e1]; omega), ev_one, mapTo_bd hw hl k (by omega) (fun x hx => ht x (by rw [take_snoc_int to k hk']; exact List.mem_append_left _ hx)), sumL_take w k (by omega), e2, Int.one_pow, Int.mul_one]
set_option maxRecDepth 100000 in
set_option maxHeartbeats 8000000 in
theorem rmap_any (A A2 : Option Addr) (c c2 : Nat) (l to : List Int) (n : Int) (w : World) (hr : Sl intCell 1 w w.heap.size A l) (hr2 : Sl intCell 1 w w.heap.size A2 to) :
    Calls Try.prog 27 #[.slice A l.length c, .slice A2 to.length c2, .int .i64 n] w (RetSlE (mapR l to n).1 (mapR l to n).2 w) := by
  have HC := Lib.hid (rcheck_any A c l w hr)
  by_cases he : errW l = 0
  · have ok := errW_zero.1 he
    rw [he] at HC
    by_cases hn : n < 1 ∨ 4096 < n
    · have HT := Lib.hid (mapR_range (to := to) he hn)
      clear hr hr2 he ok
      by_cases h1 : n < 1
      · clear hn
        go_enter Try.func27, Try.ntmps27
        go_wp2_with (go_at_call 36; refine HC.out.mono ?_; rintro _ _ ⟨rfl, rfl⟩)
        go_ret2
        rw [HT.out]
        exact retSlE_nil (Below.refl _ _)
      · have d1 : decide (n < 1) = false := by simpa using h1
        have d2 : decide (4096 < n) = true := by simp; omega
        clear hn h1
        go_enter Try.func27, Try.ntmps27
        go_wp2_with (go_at_call 36; refine HC.out.mono ?_; rintro _ _ ⟨rfl, rfl⟩)
        go_ret2
        rw [HT.out]
        exact retSlE_nil (Below.refl _ _)
    · have d1 : decide (n < 1) = false := by simp; omega
      have d2 : decide (4096 < n) = false := by simp; omega
      have n0 : 1 ≤ n := by omega
      have n1 : n ≤ 4096 := by omega
      by_cases hlen : to.length = l.length
      · have hne : ((to.length : Int) != (l.length : Int)) = false := by simp [hlen]
        have HBAD := Lib.hid (fun (k : Nat) (h : k < to.length) (hb : to[k] < 0 ∨ n ≤ to[k]) => mapR_arg (to := to) he hn (.inr (outB_any h hb)))
        have HGOOD := Lib.hid (fun (h : ∀ x ∈ to, 0 ≤ x ∧ x < n) => mapR_ok (to := to) he hn (fun hh => hh.elim (fun hh => hh hlen) (outB_none h)))
        obtain ⟨i0, hi, iz0, iz1, iz2⟩ := info_parts infoInt
        obtain ⟨N, rfl⟩ := Int.eq_ofNat_of_zero_le (a := n) (by omega)
        have hl4 := ok.len
        have HSUM := Lib.hid (fun k h ht => mapTo_bd (n := N) ok.nn hlen k h ht)
        have HNN := Lib.hid (fun k => mapTo_nn (w := l) (to := to) (n := N) ok.nn k)
        have HLE := Lib.hid (fun k => Int.le_trans (sumL_take_le ok.nn k).2 ok.le)
        have HWN := Lib.hid ok.nn
        have hlt : to.length ≤ l.length ∧ l.length ≤ to.length := by omega
        obtain ⟨hlt1, hlt2⟩ := hlt
        rw [Int.toNat_natCast] at HGOOD
        have HR := Lib.hid hr; have HR2 := Lib.hid hr2
        have H0 : Hid (mapTo l to N 0 = List.replicate N 0) := (rfl : mapTo l to N 0 = List.replicate N 0)
        clear hr hr2 he ok hn hlen
        go_enter Try.func27, Try.ntmps27
        go_wp2_with (first | (go_at_call 36; refine HC.out.mono ?_; rintro _ _ ⟨rfl, rfl⟩) |
          (at_make; refine wpList_make_arr _ rfl _ _ rfl i0 uInts hi iz0 iz1 iz2 .i64 .i64 _ _ N rfl rfl rfl rfl (by omega) ?_; intro w3 ha3 hw3))
        obtain ⟨b, hb⟩ : ∃ b, b = w.heap.size := ⟨_, rfl⟩
        have hbw : w.heap.size ≤ b := by omega
        rw [← hb] at ha3 ⊢
        have ha0 : Hid (Arr w3 b (mapTo l to N 0)) := (by rw [H0.out]; exact ha3 : Arr w3 b _)
        clear ha3 hb
        refine Lib.hid ?_
        go_wp2
        go_loopw [10] (fun i wr => ∃ k : Nat, k ≤ l.length ∧ i = .int .i64 k ∧ Hid (Arr wr b (mapTo l to N k)) ∧ Hid (∀ x ∈ to.take k, 0 ≤ x ∧ x < (N : Int)) ∧ Below w.heap.size w wr) (fun i _ => l.length - (intOf i).toNat)
        case atStart => exact ⟨0, by omega, rfl, ha0, (fun x hx => by simp at hx), hw3⟩
        case round =>
          obtain ⟨k, hk, rfl, HA, HG, hbr⟩ := hrel
          by_cases hkl : k < l.length
          · have hkt : k < to.length := by omega
            obtain ⟨xb, xo, rfl, hxb, cx⟩ := (HR.out.below hbr).int_at hkl
            obtain ⟨tb, tO, rfl, htb, ct⟩ := (HR2.out.below hbr).int_at hkt
            have HBK := Lib.hid (HBAD.out k hkt)
            have HTK := Lib.hid (take_snoc_int to k hkt)
            have eT : Hid (to.getD k 0 = to[k]) := (by simp [hkt] : to.getD k 0 = to[k])
            obtain ⟨t, ht⟩ : ∃ t, t = to[k] := ⟨_, rfl⟩
            rw [← ht] at ct HBK HTK eT
            clear ht
            have hk0 : (0 : Int) ≤ (k : Int) := by omega
            have hk1 : (k : Int) < (to.length : Int) := by omega
            have hk2 : (k : Int) < (l.length : Int) := by omega
            by_cases t0 : t < 0
            · have HT := Lib.hid (HBK.out (.inl t0))
              go_wp2
              go_ret2
              rw [HT.out]
              exact retSlE_nil hbr
            · have e0 : decide (t < 0) = false := by simpa using t0
              by_cases t1 : (N : Int) ≤ t
              · have HT := Lib.hid (HBK.out (.inr t1))
                go_wp2
                go_ret2
                rw [HT.out]
                exact retSlE_nil hbr
              · have e1 : decide ((N : Int) ≤ t) = false := by simpa using t1
                obtain ⟨T, hT⟩ := Int.eq_ofNat_of_zero_le (show 0 ≤ t by omega)
                subst hT
                have hTN : T < N := by omega
                have HG1 : Hid (∀ x ∈ to.take (k + 1), 0 ≤ x ∧ x < (N : Int)) := (by
                  rw [HTK.out]
                  intro x hx
                  rcases List.mem_append.1 hx with h | h
                  · exact HG.out x h
                  · simp at h; omega : ∀ x ∈ to.take (k + 1), 0 ≤ x ∧ x < (N : Int))
                have x0 := HWN.out _ (List.getElem_mem hkl)
                have hlenM : (mapTo l to N k).length = N := mapTo_len l to N k
                have HBE : Hid (mapTo l to N (k + 1) = (mapTo l to N k).set T ((mapTo l to N k)[T]'(by omega) + l[k])) := (by
                  show bump (mapTo l to N k) (to.getD k 0).toNat (l.getD k 0) = _
                  have e2 : l.getD k 0 = l[k] := by simp [hkl]
                  rw [eT.out, e2, Int.toNat_natCast]
                  unfold bump
                  congr 2
                  simp [show T < (mapTo l to N k).length by omega] : mapTo l to N (k + 1) = _)
                have y0 := HNN.out k _ (List.getElem_mem (show T < (mapTo l to N k).length by omega))
                have hbd : (mapTo l to N k)[T]'(by omega) + l[k] ≤ 1000000000000000 := by
                  have h1 : (mapTo l to N k)[T]'(by omega) + l[k] ∈ mapTo l to N (k + 1) := by
                    rw [HBE.out]; exact List.mem_set (by omega) _
                  obtain ⟨j, hj, hje⟩ := List.mem_iff_getElem.1 h1
                  have h2 := le_sumL (HNN.out (k + 1)) hj
                  have h3 := HSUM.out (k + 1) (by omega) HG1.out
                  have h4 := HLE.out (k + 1)
                  omega
                have ca := HA.out.at_ (j := T) (by omega)
                have fa := Blk.free HA.out T
                obtain ⟨y, hy⟩ : ∃ y, y = (mapTo l to N k)[T]'(by omega) := ⟨_, rfl⟩
                obtain ⟨x, hx⟩ : ∃ x, x = l[k] := ⟨_, rfl⟩
                rw [← hy] at ca y0 hbd HBE
                rw [← hx] at cx x0 hbd HBE
                have hT0 : (0 : Int) ≤ (T : Int) := by omega
                have hT1 : (T : Int) < (N : Int) := by omega
                have y1 : 0 ≤ y + x := by omega
                clear hy hx hlenM t0 t1
                go_wp2
                go_region
                all_goals (
                  go_wp2
                  go_roundw
                  case rel => exact ⟨k + 1, by omega, by go_num, (by rw [HBE.out]; exact HA.out.put T _ : Arr _ b _), HG1, by (repeat (first | exact Below.refl _ _ | assumption | (refine Below.alloc ?_ (by first | omega | (simp; omega) | (simp; done)) _) | (refine Below.setCell ?_ (by first | omega | (simp; omega) | (simp; done)) _) | (refine Below.drew ?_) | (refine belowN ?_ _) | (refine Below.trans ?_ (Below.mono ‹Below _ _ _› (by first | omega | (simp; omega) | (simp; done))))))⟩
                  case measure => simp [intOf] <;> omega)
          · obtain rfl : k = l.length := by omega
            have HML := Lib.hid (mapTo_len l to N l.length)
            have HT := Lib.hid (HGOOD.out (by have h := HG.out; rwa [List.take_of_length_le hlt1] at h))
            go_wp2
            go_ret2
            rw [HT.out]
            exact RetSlE.of_arr HA.out HML.out.symm hbr
      · have hne : ((to.length : Int) != (l.length : Int)) = true := by simp; omega
        have HT := Lib.hid (mapR_arg (to := to) he hn (.inl hlen))
        clear hr hr2 he ok hn hlen
        go_enter Try.func27, Try.ntmps27
        go_wp2_with (go_at_call 36; refine HC.out.mono ?_; rintro _ _ ⟨rfl, rfl⟩)
        go_ret2
        rw [HT.out]
        exact retSlE_nil (Below.refl _ _)
  · have hb : (errW l != 0) = true := by simpa using he
    have HT := Lib.hid (mapR_err (to := to) (n := n) he)
    obtain ⟨ev, hev⟩ : ∃ ev, ev = errW l := ⟨_, rfl⟩
    rw [← hev] at HC hb HT
    clear he hr hr2 hev
    go_enter Try.func27, Try.ntmps27
    go_wp2_with (go_at_call 36; refine HC.out.mono ?_; rintro _ _ ⟨rfl, rfl⟩)
    go_ret2
    rw [HT.out]
    exact retSlE_nil (Below.refl _ _)
end Go.Proofs.Ytmfbiohdmhbkoaa

/- The reference: Given, Lowest. -/
import Derived.Test.YtmfbiohdmhbkoaaRf
import Derived.Test.YtmfbiohdmhbkoaaHc
namespace Go.Proofs.Ytmfbiohdmhbkoaa
open Go.RowKit

theorem givenR_er {l o : List Int} (h : errW l ≠ 0) : givenR l o = ([], errW l) := by unfold givenR; rw [if_neg h]
theorem givenR_bad {l o : List Int} (h : errW l = 0) (h2 : amongB o l.length = false) : givenR l o = ([], 2) := by unfold givenR; rw [if_pos h, if_neg (by simp [h2])]
theorem givenR_none {l o : List Int} (h : errW l = 0) (h2 : amongB o l.length = true) (h3 : sumL (keepL l o) = 0) : givenR l o = ([], 7) := by unfold givenR; rw [if_pos h, if_pos h2, if_pos h3]
theorem givenR_ok {l o : List Int} (h : errW l = 0) (h2 : amongB o l.length = true) (h3 : sumL (keepL l o) ≠ 0) : givenR l o = (keepL l o, 0) := by unfold givenR; rw [if_pos h, if_pos h2, if_neg h3]
theorem keepF_take (w acc o : List Int) {k : Nat} (h : k < o.length) : keepF w acc (o.take (k + 1)) = (keepF w acc (o.take k)).set (o[k]).toNat (w.getD (o[k]).toNat 0) := by
  rw [take_snoc_int o k h, keepF_snoc]
set_option maxRecDepth 100000 in
set_option maxHeartbeats 4000000 in
theorem rgiven_any (A A2 : Option Addr) (c c2 : Nat) (l o : List Int) (w : World) (hm2 : o.length ≤ 1000000000) (hr : Sl intCell 1 w w.heap.size A l) (hr2 : Sl intCell 1 w w.heap.size A2 o) :
    Calls Try.prog 38 #[.slice A l.length c, .slice A2 o.length c2] w (RetSlE (givenR l o).1 (givenR l o).2 w) := by
  have HC := Lib.hid (rcheck_any A c l w hr)
  by_cases he : errW l = 0
  · have ok := errW_zero.1 he
    have hl4 := ok.len
    rw [he] at HC
    have HO := Lib.hid (routs_any A2 c2 o l.length w hm2 (by omega) (by omega) hr2)
    by_cases ho : amongB o l.length = true
    · obtain ⟨i0, hi, iz0, iz1, iz2⟩ := info_parts infoInt
      have HN := Lib.hid (givenR_none he ho)
      have HG := Lib.hid (givenR_ok he ho)
      have HIN := Lib.hid (among_spec ho)
      have HKN := Lib.hid (keepL_nn ok ho)
      have hkl : sumL (keepL l o) ≤ 1000000000000000 := Int.le_trans (keepL_le ok ho) ok.le
      have hk0 := sumL_nonneg HKN.out
      have HKL := Lib.hid (keepL_len l o)
      have HR := Lib.hid hr; have HR2 := Lib.hid hr2
      rw [ho] at HO
      clear he ok ho hr hr2
      go_enter Try.func38, Try.ntmps38
      go_wp2_with (first | (go_at_call 36; refine HC.out.mono ?_; rintro _ _ ⟨rfl, rfl⟩) | (go_at_call 76; refine HO.out.mono ?_; rintro _ w1 ⟨rfl, hb1⟩) |
        (at_make; refine wpList_make_arr _ rfl _ _ rfl i0 uInts hi iz0 iz1 iz2 .i64 .i64 _ _ l.length rfl rfl rfl rfl (by omega) ?_; intro w2 ha2 hb2))
      have hw2 := bl2 hb1 hb2
      have hgw : w.heap.size ≤ w1.heap.size := hb1.size
      have ha0 : Hid (Arr w2 w1.heap.size (keepF l (List.replicate l.length 0) (o.take 0))) := (ha2 : Arr w2 w1.heap.size (keepF l (List.replicate l.length 0) (o.take 0)))
      obtain ⟨g, hg⟩ : ∃ g, g = w1.heap.size := ⟨_, rfl⟩
      rw [← hg] at ha0 hgw ⊢
      clear ha2 hb2 hb1 hg
      refine Lib.hid ?_
      go_wp2
      go_loopw [8] (fun i wr => ∃ k : Nat, k ≤ o.length ∧ i = .int .i64 k ∧ Hid (Arr wr g (keepF l (List.replicate l.length 0) (o.take k))) ∧ Below w.heap.size w wr) (fun i _ => o.length - (intOf i).toNat)
      case atStart => exact ⟨0, by omega, rfl, ha0, hw2⟩
      case round =>
        obtain ⟨k, hk, rfl, HA, hbr⟩ := hrel
        by_cases hlt : k < o.length
        · obtain ⟨b, oo, rfl, hb, hc⟩ := (HR2.out.below hbr).int_at hlt
          obtain ⟨k0, k1⟩ := HIN.out _ (List.getElem_mem hlt)
          obtain ⟨T, hT⟩ := Int.eq_ofNat_of_zero_le k0
          have hTl : T < l.length := by omega
          obtain ⟨b2, oo2, rfl, hb2, hc2⟩ := (HR.out.below hbr).int_at hTl
          have HK := Lib.hid (keepF_take l (List.replicate l.length 0) o hlt)
          have e : l.getD (o[k]).toNat 0 = l[T] := by rw [hT, Int.toNat_natCast]; simp [hTl]
          rw [e, hT, Int.toNat_natCast] at HK
          have hlen : (keepF l (List.replicate l.length 0) (o.take k)).length = l.length := by rw [keepF_len]; simp
          obtain ⟨y, ca⟩ : ∃ y, wr.cell? ⟨g, T, none⟩ = some (.int .i64 y) := ⟨_, HA.out.at_ (j := T) (by omega)⟩
          have fa := Blk.free HA.out T
          obtain ⟨x, hx⟩ : ∃ x, x = l[T] := ⟨_, rfl⟩
          rw [← hx] at hc2 HK
          rw [hT] at hc
          have t0 : (0 : Int) ≤ (T : Int) := by omega
          have t1 : (T : Int) < (l.length : Int) := by omega
          have j0 : (0 : Int) ≤ (k : Int) := by omega
          have j1 : (k : Int) < (o.length : Int) := by omega
          clear hx hT k0 k1 e hlen
          go_wp2
          go_region
          all_goals (
            go_wp2
            go_roundw
            case rel => exact ⟨k + 1, by omega, by go_num, (by rw [HK.out]; exact HA.out.put T _ : Arr _ g _), by (repeat (first | exact Below.refl _ _ | assumption | (refine Below.alloc ?_ (by first | omega | (simp; omega) | (simp; done)) _) | (refine Below.setCell ?_ (by first | omega | (simp; omega) | (simp; done)) _) | (refine Below.drew ?_) | (refine belowN ?_ _) | (refine Below.trans ?_ (Below.mono ‹Below _ _ _› (by first | omega | (simp; omega) | (simp; done))))))⟩
            case measure => simp [intOf] <;> omega)
        · obtain rfl : k = o.length := by omega
          have HA2 : Hid (Arr wr g (keepL l o)) := (by have h := HA.out; rw [List.take_length] at h; exact h : Arr wr g (keepL l o))
          have HSL := Lib.hid HA2.out.sl
          have HS := Lib.hid (rtotal_any (some ⟨g, 0, none⟩) l.length (keepL l o) wr (by rw [HKL.out]; omega) HKN.out (by omega) HSL.out)
          rw [HKL.out] at HS
          clear HA
          by_cases hz : sumL (keepL l o) = 0
          · have HT := Lib.hid (HN.out hz)
            rw [hz] at HS
            clear hz hk0 hkl
            go_wp2_with (go_at_call 39; refine HS.out.mono ?_; rintro _ _ ⟨rfl, rfl⟩)
            go_ret2
            rw [HT.out]
            exact retSlE_nil hbr
          · have HT := Lib.hid (HG.out hz)
            have hb : (sumL (keepL l o) == 0) = false := by simpa using hz
            obtain ⟨s, hs⟩ : ∃ s, s = sumL (keepL l o) := ⟨_, rfl⟩
            rw [← hs] at HS hb
            clear hz hk0 hkl hs
            go_wp2_with (go_at_call 39; refine HS.out.mono ?_; rintro _ _ ⟨rfl, rfl⟩)
            go_ret2
            rw [HT.out]
            exact RetSlE.of_arr HA2.out HKL.out.symm hbr
    · simp only [Bool.not_eq_true] at ho
      have HT := Lib.hid (givenR_bad he ho)
      rw [ho] at HO
      clear he ok ho hr hr2
      go_enter Try.func38, Try.ntmps38
      go_wp2_with (first | (go_at_call 36; refine HC.out.mono ?_; rintro _ _ ⟨rfl, rfl⟩) | (go_at_call 76; refine HO.out.mono ?_; rintro _ w1 ⟨rfl, hb1⟩))
      go_ret2
      rw [HT.out]
      exact retSlE_nil hb1
  · have HT := Lib.hid (givenR_er (o := o) he)
    have hb : (errW l != 0) = true := by simpa using he
    obtain ⟨ev, hev⟩ : ∃ ev, ev = errW l := ⟨_, rfl⟩
    rw [← hev] at HC hb HT
    clear he hr hr2 hev
    go_enter Try.func38, Try.ntmps38
    go_wp2_with (go_at_call 36; refine HC.out.mono ?_; rintro _ _ ⟨rfl, rfl⟩)
    go_ret2
    rw [HT.out]
    exact retSlE_nil (Below.refl _ _)
theorem gL_bd {l : List Int} (h : ∀ x ∈ l, 0 ≤ x) : ∀ k, gL (l.take k) ≤ 1000000000000000 ∨ ∃ x ∈ l, 1000000000000000 < x := fun k => by
  rcases Int.lt_or_le 1000000000000000 (gL (l.take k)) with hg | hg
  · have hd := gL_dvd (l.take k) (fun x hx => h x (List.mem_of_mem_take hx))
    refine .inr ?_
    apply Classical.byContradiction
    intro hno
    have hz : ∀ x ∈ l.take k, x = 0 := fun x hx => by
      have hx' := List.mem_of_mem_take hx
      have h0 := h x hx'
      rcases Int.lt_or_eq_of_le h0 with hp | hp
      · have h1 := Int.le_of_dvd hp (hd x hx)
        exact absurd ⟨x, hx', by omega⟩ hno
      · exact hp.symm
    have : ∀ m : List Int, (∀ x ∈ m, x = 0) → gL m = 0 := fun m => by
      have key : ∀ (m : List Int), (∀ x ∈ m, x = 0) → m.foldl gI 0 = 0 := fun m => by
        induction m with
        | nil => intro _; rfl
        | cons y m ih =>
          intro hm
          have e : y = 0 := hm y (by simp)
          subst e
          show m.foldl gI (gI 0 0) = 0
          rw [gI_zero (by omega)]
          exact ih fun x hx => hm x (by simp [hx])
      exact key m
    have := this _ hz
    omega
  · exact .inl hg
theorem lowTo_next (l : List Int) (g : Int) {k : Nat} (h : k < l.length) : ((l.take (k + 1)).map fun x => x / g) = ((l.take k).map fun x => x / g) ++ [l[k] / g] := by rw [take_snoc_int l k h, List.map_append]; rfl
set_option maxRecDepth 100000 in
set_option maxHeartbeats 4000000 in
theorem rlow_any (A : Option Addr) (c : Nat) (l : List Int) (w : World) (ok : OkW l) (hr : Sl intCell 1 w w.heap.size A l) :
    Calls Try.prog 40 #[.slice A l.length c] w (RetL (lowL l) w) := by
  obtain ⟨i0, hi, iz0, iz1, iz2⟩ := info_parts infoInt
  have HR := Lib.hid hr
  have hl4 := ok.len
  have HAT := Lib.hid (fun k (hk : k < l.length) => ok.at_ hk)
  have HGB := Lib.hid (fun k => (gL_bd ok.nn k).resolve_right (fun ⟨x, hx, h⟩ => by
    obtain ⟨j, hj, rfl⟩ := List.mem_iff_getElem.1 hx
    have := (ok.at_ hj).2; omega))
  have hgp := ok.gpos
  have hgl := gL_le ok
  have HLL : Hid (lowL l = l.map fun x => x / gL l) := (rfl : lowL l = _)
  clear hr ok
  go_enter Try.func40, Try.ntmps40
  go_wp2
  go_loopw [3, 4] (fun v i wr => ∃ k : Nat, k ≤ l.length ∧ i = .int .i64 k ∧ v = .int .i64 (gL (l.take k)) ∧ Below w.heap.size w wr) (fun _ i _ => l.length - (intOf i).toNat)
  case atStart => exact ⟨0, by omega, rfl, rfl, Below.refl _ _⟩
  case round =>
    obtain ⟨k, hk, rfl, rfl, hbr⟩ := hrel
    by_cases hlt : k < l.length
    · obtain ⟨b, o, rfl, hb, hc⟩ := (HR.out.below hbr).int_at hlt
      obtain ⟨x0, x1⟩ := HAT.out k hlt
      have g0 := gL_nonneg (l.take k)
      have g1 := HGB.out k
      have HS := Lib.hid (gL_take l k hlt)
      have HD := Lib.hid (fun W => rdiv_any (gL (l.take k)) l[k] W g0 x0 (by omega) (by omega))
      rw [← HS.out] at HD
      obtain ⟨s, hs⟩ : ∃ s, s = gL (l.take k) := ⟨_, rfl⟩
      obtain ⟨x, hx⟩ : ∃ x, x = l[k] := ⟨_, rfl⟩
      rw [← hs, ← hx] at HD
      rw [← hs]
      rw [← hx] at hc
      clear hs hx x0 x1 g0 g1
      go_wp2_with (go_at_call 63; refine (HD.out _).mono ?_; rintro _ w1 ⟨rfl, hb1⟩)
      go_roundw
      case rel => exact ⟨k + 1, by omega, by go_num, rfl, bl2 hbr hb1⟩
      case measure => simp [intOf]; omega
    · obtain rfl : k = l.length := by omega
      rw [List.take_length]
      go_wp2
      obtain ⟨g, hg⟩ : ∃ g, g = gL l := ⟨_, rfl⟩
      rw [← hg] at hgp hgl HLL ⊢
      have g00 : (g == 0) = false := by simp; omega
      refine gen_w (fun W => W.ownsRow w.heap.size 3 1 (.slice (some ⟨wr.heap.size, 0, none⟩) 0 0) 0 [] ∧ Below w.heap.size w W) ⟨by simpa using World.ownsRow_made (e := 3) (size := 1) wr #[] 0 (base := w.heap.size) hbr.size (by simp) (by simp), hbr.alloc hbr.size _⟩ ?_
      rintro W0 ⟨how, hbW⟩
      have HOW := Lib.hid how
      clear how hg hbr
      rename World => wx
      go_loopw [5, 6] (fun v i wr => ∃ k : Nat, k ≤ l.length ∧ i = .int .i64 k ∧ Hid (wr.ownsRow w.heap.size 3 1 v k (((l.take k).map fun x => x / g).map (Value.int .i64))) ∧ Below w.heap.size w wr) (fun _ i _ => l.length - (intOf i).toNat)
      case atStart => exact ⟨0, by omega, rfl, HOW.out, hbW⟩
      case round =>
        obtain ⟨k, hk, rfl, hown, hbr⟩ := hrel
        by_cases hlt : k < l.length
        · obtain ⟨b, o, rfl, hb, hc⟩ := (HR.out.below hbr).int_at hlt
          obtain ⟨x0, x1⟩ := HAT.out k hlt
          have HN := Lib.hid (lowTo_next l g hlt)
          obtain ⟨x, hx⟩ : ∃ x, x = l[k] := ⟨_, rfl⟩
          rw [← hx] at hc HN x0 x1
          have q0 : 0 ≤ x / g := Int.ediv_nonneg x0 (by omega)
          have q1 : x / g ≤ x := Int.ediv_le_self _ x0
          clear hx
          have hsz := hbr.size
          go_wp2_with (at_builtin; refine wpList_append_own _ rfl _ _ 22 rfl w.heap.size 3 i0 (.int .i64 0) 1 8 uInts hi iz0 iz1 iz2 rfl (by decide) _ _ _ rfl (hown.out.alloc _) ⟨wr.heap.size, 0, none⟩ 1 1 [.int .i64 (x / g)] rfl rfl (cell_one_new _ _ _) (by simp [Value.oneCell']) (by unfold maxLen; omega) (by omega) (by simp; omega) ?_; intro v' w1 hown1 hgrow _)
          have hb1 : Below w.heap.size w w1 := (hbr.alloc hsz _).grown hgrow (by simp; omega) (fun g hg => (hown.out.lt g hg).1)
          have HO1 : Hid (w1.ownsRow w.heap.size 3 1 v' (k + 1) (((l.take (k + 1)).map fun x => x / g).map (Value.int .i64))) := (by rw [HN.out, List.map_append]; exact hown1 : w1.ownsRow w.heap.size 3 1 v' (k + 1) (((l.take (k + 1)).map fun x => x / g).map (Value.int .i64)))
          clear hown1 hgrow
          go_roundw
          case rel => exact ⟨k + 1, by omega, by go_num, HO1, hb1⟩
          case measure => simp [intOf]; omega
        · obtain rfl : k = l.length := by omega
          have hown := hown.out
          rw [List.take_length, ← HLL.out] at hown
          obtain ⟨A', c', hv, h4, h5⟩ := sl_of_own (l := lowL l) (by rw [lowL_len, flat_int]; exact hown)
          subst hv
          have H4 := Lib.hid h4; have H5 := Lib.hid h5
          clear hown h4 h5
          go_wp2
          go_ret
          exact ⟨A', c', rfl, H4.out, H5.out, hbr⟩
end Go.Proofs.Ytmfbiohdmhbkoaa

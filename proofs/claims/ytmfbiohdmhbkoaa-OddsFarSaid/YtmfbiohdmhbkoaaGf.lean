/- odds: keep, ratio, Of, Given. -/
import Derived.Test.YtmfbiohdmhbkoaaGe
import Derived.Test.YtmfbiohdmhbkoaaPm
namespace Go.Proofs.Ytmfbiohdmhbkoaa
open Go.RowKit

theorem keepL_take {w o : List Int} {k : Nat} (hk : k < o.length) (_h0 : 0 ≤ o[k]) (h1 : o[k].toNat < w.length) : keepF w (List.replicate w.length 0) (o.take (k + 1)) = (keepF w (List.replicate w.length 0) (o.take k)).set o[k].toNat w[o[k].toNat] := by
  rw [take_snoc_int o k hk, keepF_snoc]; congr 1; simp [h1]
set_option maxRecDepth 100000 in
set_option maxHeartbeats 2000000 in
theorem keep_any (A A2 : Option Addr) (c c2 : Nat) (l o : List Int) (w : World) (hm : l.length ≤ 1000000000) (hm2 : o.length ≤ 1000000000) (hr : Sl intCell 1 w w.heap.size A l) (hr2 : Sl intCell 1 w w.heap.size A2 o) :
    Calls Try.prog 74 #[.slice A l.length c, .slice A2 o.length c2] w (RetSlE (keepR l o).1 (keepR l o).2 w) := by
  obtain ⟨i0, hi, iz0, iz1, iz2⟩ := info_parts infoInt
  have HC := Lib.hid (check_any A c l w hm hr)
  by_cases he : errW l = 0
  · have ok := errW_zero.1 he
    have hlen := ok.len
    have HM := Lib.hid (among_any A2 c2 o l.length w hm2 (by omega) (by omega) hr2)
    have HE := Lib.hid he
    by_cases hB : amongB o l.length = true
    · have HT : Hid (keepR l o = (keepL l o, 0)) := (by unfold keepR; rw [if_pos he, if_pos hB] : keepR l o = _)
      have HR := Lib.hid hr; have HR2 := Lib.hid hr2
      have HS := Lib.hid (among_spec hB)
      have HB := Lib.hid hB
      have HK : Hid (keepF l (List.replicate l.length 0) (o.take 0) = List.replicate l.length 0) := (rfl : keepF l (List.replicate l.length 0) (o.take 0) = List.replicate l.length 0)
      have HOK := Lib.hid ok
      clear he ok hr hr2 hB
      go_enter Try.func74, Try.ntmps74
      go_wp2_with fail
      refine HC.out.mono ?_
      rintro _ _ ⟨rfl, rfl⟩
      rw [HE.out]
      go_wp2_with fail
      refine HM.out.mono ?_
      rintro _ _ ⟨rfl, rfl⟩
      rw [HB.out]
      go_wp2_with (at_make; refine wpList_make_arr _ rfl _ _ rfl i0 uInts hi iz0 iz1 iz2 .i64 .i64 _ _ l.length rfl rfl rfl rfl (by omega) ?_; intro w2 ha2 hb2)
      obtain ⟨b, hb⟩ : ∃ b, b = w.heap.size := ⟨_, rfl⟩
      rw [← hb] at ha2 ⊢
      have hbw : w.heap.size ≤ b := by omega
      have ha0 : Hid (Arr w2 b (keepF l (List.replicate l.length 0) (o.take 0))) := (by rw [HK.out]; exact ha2 : Arr w2 b _)
      clear ha2 hb
      refine Lib.hid ?_
      go_wp2
      go_loopw [25] (fun i wr => ∃ k : Nat, k ≤ o.length ∧ i = .int .i64 k ∧ Hid (Arr wr b (keepF l (List.replicate l.length 0) (o.take k))) ∧ Below w.heap.size w wr) (fun i _ => o.length - (intOf i).toNat)
      case atStart => exact ⟨0, by omega, rfl, ha0, hb2⟩
      case round =>
        obtain ⟨k, hk, rfl, HA, hbr⟩ := hrel
        by_cases hlt : k < o.length
        · obtain ⟨b', o', rfl, hbb, hc⟩ := (HR2.out.below hbr).int_at hlt
          obtain ⟨y0, y1⟩ := HS.out _ (List.getElem_mem hlt)
          have y2 : o[k].toNat < l.length := by omega
          obtain ⟨b3, o3, rfl, hb3, hc3⟩ := (HR.out.below hbr).int_at y2
          have HKT := Lib.hid (keepL_take (w := l) hlt y0 y2)
          have ca := HA.out.at_ (j := o[k].toNat) (by rw [keepF_len]; simpa using y2)
          have fa := Blk.free HA.out o[k].toNat
          obtain ⟨x, hx⟩ : ∃ x, x = o[k] := ⟨_, rfl⟩
          rw [← hx] at hc y0 y1
          simp only [← hx] at hc3 HKT ca fa y2
          obtain ⟨v, hv⟩ : ∃ v, v = l[x.toNat] := ⟨_, rfl⟩
          rw [← hv] at hc3 HKT
          obtain ⟨u, hu⟩ : ∃ u, u = (keepF l (List.replicate l.length 0) (o.take k))[x.toNat]'(by rw [keepF_len]; simpa using y2) := ⟨_, rfl⟩
          rw [← hu] at ca
          clear hx hv hu
          obtain ⟨X, rfl⟩ := Int.eq_ofNat_of_zero_le y0
          simp only [Int.toNat_natCast] at hc3 HKT ca fa y2
          go_wp2
          go_roundw
          case rel => exact ⟨k + 1, by omega, by go_num, (by rw [HKT.out]; exact HA.out.put X _ : Arr _ b _), hbr.setCell (p := ⟨b, X, none⟩) hbw _⟩
          case measure => simp [intOf]; omega
        · obtain rfl : k = o.length := by omega
          have e := take_all_int o
          go_wp2
          go_ret2
          rw [HT.out]
          exact RetSlE.of_arr (by have := HA.out; rw [e] at this; exact this) (by rw [keepL_len]) hbr
    · simp only [Bool.not_eq_true] at hB
      have HT : Hid (keepR l o = ([], 2)) := (by unfold keepR; rw [if_pos he, hB]; rfl : keepR l o = _)
      have HB := Lib.hid hB
      clear he ok hr hr2 hB
      go_enter Try.func74, Try.ntmps74
      go_wp2_with fail
      refine HC.out.mono ?_
      rintro _ _ ⟨rfl, rfl⟩
      rw [HE.out]
      go_wp2_with fail
      refine HM.out.mono ?_
      rintro _ _ ⟨rfl, rfl⟩
      rw [HB.out]
      go_wp2
      go_ret2
      rw [HT.out]
      exact retSlE_nil (Below.refl _ _)
  · have hb : (errW l != 0) = true := by simpa using he
    have HT : Hid (keepR l o = ([], errW l)) := (by unfold keepR; rw [if_neg he] : keepR l o = _)
    obtain ⟨ev, hev⟩ : ∃ ev, ev = errW l := ⟨_, rfl⟩
    rw [← hev] at HC hb HT
    clear he hr hr2 hev
    go_enter Try.func74, Try.ntmps74
    go_wp2_with fail
    refine HC.out.mono ?_
    rintro _ _ ⟨rfl, rfl⟩
    go_wp2
    go_ret2
    rw [HT.out]
    exact retSlE_nil (Below.refl _ _)
/-- a chance is returned -/
def RetC1 (n d : Int) (w : World) (e : Ending) (w' : World) : Prop := e = .returned (.agg #[.int .i64 n, .int .i64 d]) ∧ Below w.heap.size w w'
def RetC (x : Int × Int × Int) (w : World) (e : Ending) (w' : World) : Prop := e = .returned (.tuple #[.agg #[.int .i64 x.1, .int .i64 x.2.1], .int .i64 x.2.2]) ∧ Below w.heap.size w w'
theorem gL_two {n d : Int} (hn : 0 ≤ n) : gL [n, d] = gI n d := by simp [gL, gI_zero_left hn]
set_option maxRecDepth 100000 in
theorem gcd2_any (n d : Int) (W : World) (b : Nat) (h0 : b = W.heap.size) (hn : 0 ≤ n) (hd : 0 ≤ d) (hn' : n ≤ 1000000000000000) (hd' : d ≤ 1000000000000000) :
    Calls Try.prog 62 #[.slice (some ⟨b, 0, none⟩) 2 2] (W.alloc (.cells #[.int .i64 n, .int .i64 d] 3)) fun e w' => e = .returned (.int .i64 (gI n d)) ∧ Below W.heap.size W w' := by
  subst h0
  have h := gcd_any (some ⟨W.heap.size, 0, none⟩) 2 [n, d] (W.alloc (.cells #[.int .i64 n, .int .i64 d] 3)) (by simp) (by simp; omega) (sl_one (Blk.new W _ _) rfl rfl)
  rw [gL_two hn] at h
  exact h.mono fun _ _ ⟨h1, h2⟩ => ⟨h1, bl3 (Below.refl _ _) h2⟩
set_option maxRecDepth 100000 in
set_option maxHeartbeats 1000000 in
theorem ratio_any (n d : Int) (w : World) (hn : 0 ≤ n) (hd : 0 < d) (hn' : n ≤ 1000000000000000) (hd' : d ≤ 1000000000000000) : Calls Try.prog 75 #[.int .i64 n, .int .i64 d] w (RetC1 (ratN n d) (ratD n d) w) := by
  have HG := Lib.hid (fun W b h => gcd2_any n d W b h hn (by omega) hn' hd')
  have g0 := gI_pos (a := n) (b := d) (.inr hd)
  have g1 := gI_le_right n hd
  have HN : Hid (ratN n d = n / gI n d) := (rfl : ratN n d = _)
  have HD : Hid (ratD n d = d / gI n d) := (rfl : ratD n d = _)
  obtain ⟨g, hg⟩ : ∃ g, g = gI n d := ⟨_, rfl⟩
  rw [← hg] at g0 g1 HN HD
  rw [← hg] at HG
  clear hg
  go_enter Try.func75, Try.ntmps75
  go_wp2_with (go_at_call 62; refine (HG.out _ _ (by simp)).mono ?_; rintro _ w1 ⟨rfl, hb1⟩; have gR : Blk w1 w.heap.size #[.int .i64 0, .int .i64 0] 51 := (Blk.at_ rfl).below hb1 (by simp))
  have hz := gR.lt
  have c0 := gR.cell 0; have c1 := gR.cell 1
  have f0 := gR.free 0; have f1 := gR.free 1
  simp at c0 c1
  go_region
  all_goals (
    go_wp2
    refine gen_w (fun W => Blk W w.heap.size #[.int .i64 (n / g), .int .i64 (d / g)] 51 ∧ Below w.heap.size w W) ⟨by have := (gR.set 0 (.int .i64 (n / g))).set 1 (.int .i64 (d / g)); simp at this; exact this, by (repeat (first | exact Below.refl _ _ | assumption | (refine Below.alloc ?_ (by first | omega | (simp; omega) | (simp; done)) _) | (refine Below.setCell ?_ (by first | omega | (simp; omega) | (simp; done)) _) | (refine Below.drew ?_) | (refine belowN ?_ _) | (refine Below.trans ?_ (Below.mono ‹Below _ _ _› (by first | omega | (simp; omega) | (simp; done))))))⟩ ?_
    rintro W ⟨gW, hW⟩
    have q0 := gW.cell 0; have q1 := gW.cell 1
    simp at q0 q1
    exact bodyPost_ret (v := .agg #[.int .i64 (n / g), .int .i64 (d / g)]) (by simp [results, Try.results75, go_sem, q0, q1]) rfl ⟨by rw [HN.out, HD.out], hW⟩)
theorem retC_zero {er : Int} {w w' : World} (h : Below w.heap.size w w') : RetC (0, 0, er) w (.returned (.tuple #[.agg #[.int .i64 0, .int .i64 0], .int .i64 er])) w' := ⟨rfl, h⟩
set_option maxRecDepth 100000 in
set_option maxHeartbeats 2000000 in
theorem of_any (A A2 : Option Addr) (c c2 : Nat) (l o : List Int) (w : World) (hm : l.length ≤ 1000000000) (hm2 : o.length ≤ 1000000000) (hr : Sl intCell 1 w w.heap.size A l) (hr2 : Sl intCell 1 w w.heap.size A2 o) :
    Calls Try.prog 34 #[.slice A l.length c, .slice A2 o.length c2] w (RetC (ofR l o) w) := by
  have HK := Lib.hid (fun W (hW : Below w.heap.size w W) => keep_any A A2 c c2 l o W hm hm2 ((hr.below hW).more hW.size) ((hr2.below hW).more hW.size))
  by_cases he : (keepR l o).2 = 0
  · have he0 : errW l = 0 := by
      unfold keepR at he
      by_cases h : errW l = 0
      · exact h
      · rw [if_neg h] at he; exact he
    have hB : amongB o l.length = true := by
      unfold keepR at he
      rw [if_pos he0] at he
      by_cases h : amongB o l.length = true
      · exact h
      · rw [if_neg h] at he; cases he
    have ok := errW_zero.1 he0
    have HT : Hid (ofR l o = (ratN (sumL (keepL l o)) (sumL l), ratD (sumL (keepL l o)) (sumL l), 0)) := (by unfold ofR; rw [if_pos he0, if_pos hB] : ofR l o = _)
    have e : keepR l o = (keepL l o, 0) := by unfold keepR; rw [if_pos he0, if_pos hB]
    have kn := keepL_nn ok hB
    have kl := keepL_le ok hB
    have k0 := sumL_nonneg kn
    have HKN := Lib.hid kn
    have p0 := ok.pos; have p1 := ok.le
    have HS := Lib.hid (fun W (hW : Below w.heap.size w W) => sum_any A c l W (by have := ok.len; omega) ok.nn (by omega) ((hr.below hW).more hW.size))
    have hkl : (keepL l o).length ≤ 1000000 := by rw [keepL_len]; have := ok.len; omega
    have HR := Lib.hid (fun W => ratio_any (sumL (keepL l o)) (sumL l) W k0 (by omega) (by omega) p1)
    rw [e] at HK
    clear he he0 hB ok e kn hr hr2
    obtain ⟨K, hK⟩ : ∃ K, K = keepL l o := ⟨_, rfl⟩
    obtain ⟨x, hx⟩ : ∃ x, x = ratN (sumL K) (sumL l) := ⟨_, rfl⟩
    obtain ⟨y, hy⟩ : ∃ y, y = ratD (sumL K) (sumL l) := ⟨_, rfl⟩
    rw [← hK] at HT HK HKN kl k0 hkl HR
    rw [← hx, ← hy] at HT HR
    clear hK hx hy
    go_enter Try.func34, Try.ntmps34
    go_wp2_with (first | (go_at_call 74; refine (HK.out _ (by (repeat (first | exact Below.refl _ _ | assumption | (refine Below.alloc ?_ (by first | omega | (simp; omega) | (simp; done)) _) | (refine Below.setCell ?_ (by first | omega | (simp; omega) | (simp; done)) _) | (refine Below.drew ?_) | (refine belowN ?_ _) | (refine Below.trans ?_ (Below.mono ‹Below _ _ _› (by first | omega | (simp; omega) | (simp; done)))))))).mono ?_; rintro _ w1 ⟨B, cc, rfl, hs, hz, hb1⟩; have HS1 := Lib.hid hs; clear hs hz; have gR : Blk w1 w.heap.size #[.int .i64 0, .int .i64 0] 51 := (Blk.at_ rfl).below hb1 (by simp)) |
      (go_at_call 57; with_reducible refine (HS.out _ (by (repeat (first | exact Below.refl _ _ | assumption | (refine Below.alloc ?_ (by first | omega | (simp; omega) | (simp; done)) _) | (refine Below.setCell ?_ (by first | omega | (simp; omega) | (simp; done)) _) | (refine Below.drew ?_) | (refine belowN ?_ _) | (refine Below.trans ?_ (Below.mono ‹Below _ _ _› (by first | omega | (simp; omega) | (simp; done)))))))).mono ?_; rintro _ _ ⟨rfl, rfl⟩) |
      (go_at_call 57; refine (sum_any _ _ K _ hkl HKN.out (by omega) HS1.out).mono ?_; rintro _ _ ⟨rfl, rfl⟩) |
      (go_at_call 75; refine (HR.out _).mono ?_; rintro _ w2 ⟨rfl, hb2⟩; have g2 := gR.below hb2 gR.lt; have c0 := g2.cell 0; have c1 := g2.cell 1; have f0 := g2.free 0; have f1 := g2.free 1; simp at c0 c1; have hz2 := g2.lt))
    refine gen_w (fun W => Blk W w.heap.size #[.int .i64 x, .int .i64 y] 51 ∧ Below w.heap.size w W) ⟨by have := (g2.set 0 (.int .i64 x)).set 1 (.int .i64 y); simp at this; exact this, by have hw2 := bl2 (bl3 (Below.refl _ _) hb1) hb2; (repeat (first | exact Below.refl _ _ | assumption | (refine Below.alloc ?_ (by first | omega | (simp; omega) | (simp; done)) _) | (refine Below.setCell ?_ (by first | omega | (simp; omega) | (simp; done)) _) | (refine Below.drew ?_) | (refine belowN ?_ _) | (refine Below.trans ?_ (Below.mono ‹Below _ _ _› (by first | omega | (simp; omega) | (simp; done))))))⟩ ?_
    rintro W ⟨gW, hW⟩
    have q0 := gW.cell 0; have q1 := gW.cell 1
    simp at q0 q1
    exact bodyPost_ret (v := .tuple #[.agg #[.int .i64 x, .int .i64 y], .int .i64 0]) (by simp [results, Try.results34, go_sem, q0, q1]) rfl ⟨by rw [HT.out], hW⟩
  · have HT : Hid (ofR l o = (0, 0, (keepR l o).2)) := (by
      unfold ofR keepR; unfold keepR at he
      by_cases h : errW l = 0
      · rw [if_pos h] at he ⊢
        rw [if_pos h]
        by_cases h2 : amongB o l.length = true
        · rw [if_pos h2] at he; exact absurd rfl he
        · rw [if_neg h2, if_neg h2]
      · rw [if_neg h, if_neg h] : ofR l o = _)
    have hb : ((keepR l o).2 != 0) = true := by simpa using he
    obtain ⟨ev, hev⟩ : ∃ ev, ev = (keepR l o).2 := ⟨_, rfl⟩
    obtain ⟨K, hK⟩ : ∃ K, K = (keepR l o).1 := ⟨_, rfl⟩
    rw [← hev] at hb HT
    rw [← hev, ← hK] at HK
    clear he hr hr2 hev hK
    go_enter Try.func34, Try.ntmps34
    go_wp2_with (go_at_call 74; refine (HK.out _ (by (repeat (first | exact Below.refl _ _ | assumption | (refine Below.alloc ?_ (by first | omega | (simp; omega) | (simp; done)) _) | (refine Below.setCell ?_ (by first | omega | (simp; omega) | (simp; done)) _) | (refine Below.drew ?_) | (refine belowN ?_ _) | (refine Below.trans ?_ (Below.mono ‹Below _ _ _› (by first | omega | (simp; omega) | (simp; done)))))))).mono ?_; rintro _ w1 ⟨B, cc, rfl, hs, hz, hb1⟩; clear hs hz; have gR : Blk w1 w.heap.size #[.int .i64 0, .int .i64 0] 51 := (Blk.at_ rfl).below hb1 (by simp); have c0 := gR.cell 0; have c1 := gR.cell 1; have f0 := gR.free 0; have f1 := gR.free 1; simp at c0 c1; have hz := gR.lt)
    refine gen_w (fun W => Blk W w.heap.size #[.int .i64 0, .int .i64 0] 51 ∧ Below w.heap.size w W) ⟨by have := (gR.set 0 (.int .i64 0)).set 1 (.int .i64 0); simpa using this, by (repeat (first | exact Below.refl _ _ | assumption | (refine Below.alloc ?_ (by first | omega | (simp; omega) | (simp; done)) _) | (refine Below.setCell ?_ (by first | omega | (simp; omega) | (simp; done)) _) | (refine Below.drew ?_) | (refine belowN ?_ _) | (refine Below.trans ?_ (Below.mono ‹Below _ _ _› (by first | omega | (simp; omega) | (simp; done))))))⟩ ?_
    rintro W ⟨gW, hW⟩
    have q0 := gW.cell 0; have q1 := gW.cell 1
    simp at q0 q1
    exact bodyPost_ret (v := .tuple #[.agg #[.int .i64 0, .int .i64 0], .int .i64 ev]) (by simp [results, Try.results34, go_sem, q0, q1]) rfl ⟨by rw [HT.out], hW⟩
theorem given_any (A A2 : Option Addr) (c c2 : Nat) (l o : List Int) (w : World) (hm : l.length ≤ 1000000000) (hm2 : o.length ≤ 1000000000) (hr : Sl intCell 1 w w.heap.size A l) (hr2 : Sl intCell 1 w w.heap.size A2 o) :
    Calls Try.prog 35 #[.slice A l.length c, .slice A2 o.length c2] w (RetSlE (givenR l o).1 (givenR l o).2 w) := by
  have HK := Lib.hid (keep_any A A2 c c2 l o w hm hm2 hr hr2)
  by_cases he0 : errW l = 0
  · by_cases hB : amongB o l.length = true
    · have ok := errW_zero.1 he0
      have e : keepR l o = (keepL l o, 0) := by unfold keepR; rw [if_pos he0, if_pos hB]
      have kn := keepL_nn ok hB
      have kl := keepL_le ok hB
      have HKN := Lib.hid kn
      have p1 := ok.le
      have hkl : (keepL l o).length ≤ 1000000 := by rw [keepL_len]; have := ok.len; omega
      rw [e] at HK
      by_cases hz : sumL (keepL l o) = 0
      · have HT : Hid (givenR l o = ([], 7)) := (by unfold givenR; rw [if_pos he0, if_pos hB, if_pos hz] : givenR l o = _)
        have HZ := Lib.hid hz
        clear he0 hB ok e kn hr hr2 hz
        obtain ⟨K, hK⟩ : ∃ K, K = keepL l o := ⟨_, rfl⟩
        rw [← hK] at HK HKN kl hkl HZ
        clear hK
        go_enter Try.func35, Try.ntmps35
        go_wp2_with (first | (go_at_call 74; refine HK.out.mono ?_; rintro _ w1 ⟨B, cc, rfl, hs, hz, hb1⟩; have HS1 := Lib.hid hs; clear hs hz) |
          (go_at_call 57; refine (sum_any _ _ K _ hkl HKN.out (by omega) HS1.out).mono ?_; rintro _ _ ⟨rfl, rfl⟩; rw [HZ.out]))
        go_ret2
        rw [HT.out]
        exact retSlE_nil hb1
      · have HT : Hid (givenR l o = (keepL l o, 0)) := (by unfold givenR; rw [if_pos he0, if_pos hB, if_neg hz] : givenR l o = _)
        have hz' : (sumL (keepL l o) == 0) = false := by simpa using hz
        clear he0 hB ok e kn hr hr2 hz
        obtain ⟨K, hK⟩ : ∃ K, K = keepL l o := ⟨_, rfl⟩
        rw [← hK] at HK HKN kl hkl hz' HT
        clear hK
        go_enter Try.func35, Try.ntmps35
        go_wp2_with (first | (go_at_call 74; refine HK.out.mono ?_; rintro _ w1 ⟨B, cc, rfl, hs, hz, hb1⟩; have HS1 := Lib.hid hs; have HZ1 := Lib.hid hz; clear hs hz) |
          (go_at_call 57; refine (sum_any _ _ K _ hkl HKN.out (by omega) HS1.out).mono ?_; rintro _ _ ⟨rfl, rfl⟩))
        go_ret2
        rw [HT.out]
        exact ⟨_, _, rfl, HS1.out, HZ1.out, hb1⟩
    · have HT : Hid (givenR l o = ([], 2)) := (by unfold givenR; rw [if_pos he0, if_neg hB] : givenR l o = _)
      have e : keepR l o = ([], 2) := by unfold keepR; rw [if_pos he0, if_neg hB]
      rw [e] at HK
      clear he0 hB e hr hr2
      go_enter Try.func35, Try.ntmps35
      go_wp2_with (go_at_call 74; refine HK.out.mono ?_; rintro _ w1 ⟨B, cc, rfl, hs, hz, hb1⟩; clear hs hz)
      go_ret2
      rw [HT.out]
      exact retSlE_nil hb1
  · have HT : Hid (givenR l o = ([], errW l)) := (by unfold givenR; rw [if_neg he0] : givenR l o = _)
    have e : keepR l o = ([], errW l) := by unfold keepR; rw [if_neg he0]
    have hb : (errW l != 0) = true := by simpa using he0
    rw [e] at HK
    obtain ⟨ev, hev⟩ : ∃ ev, ev = errW l := ⟨_, rfl⟩
    rw [← hev] at hb HT HK
    clear he0 e hr hr2 hev
    go_enter Try.func35, Try.ntmps35
    go_wp2_with (go_at_call 74; refine HK.out.mono ?_; rintro _ w1 ⟨B, cc, rfl, hs, hz, hb1⟩; clear hs hz)
    go_ret2
    rw [HT.out]
    exact retSlE_nil hb1
end Go.Proofs.Ytmfbiohdmhbkoaa

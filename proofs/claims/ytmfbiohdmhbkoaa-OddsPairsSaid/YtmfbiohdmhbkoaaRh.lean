/- The reference: Join. -/
import Derived.Test.YtmfbiohdmhbkoaaRc
import Derived.Test.YtmfbiohdmhbkoaaGs
import Derived.Test.YtmfbiohdmhbkoaaHc
import Derived.Test.YtmfbiohdmhbkoaaTail
import Derived.Deep.AppendLies
import Derived.Deep.RegionHeldLaw
namespace Go.Proofs.Ytmfbiohdmhbkoaa
open Go.RowKit

theorem row_below {W W' : World} {base n : Nat} {v : Value} {xs : List Value} (h : W.ownsRow base 3 1 v n xs) (hb : Below W.heap.size W W') : W'.ownsRow base 3 1 v n xs :=
  World.ownsRow.kept h (row := none) ⟨hb.os, hb.tape, hb.output, hb.size, fun k hk _ => hb.block k hk⟩ (by
    cases hv : v.ownBlock with
    | none => exact .inl rfl
    | some g => exact .inr (fun e => nomatch e))
set_option maxRecDepth 100000 in
set_option maxHeartbeats 8000000 in
theorem rjoin_any (A A2 : Option Addr) (c c2 : Nat) (a b : List Int) (w : World) (hr : Sl intCell 1 w w.heap.size A a) (hr2 : Sl intCell 1 w w.heap.size A2 b) :
    Calls Try.prog 53 #[.slice A a.length c, .slice A2 b.length c2] w (RetSlE (joinR a b).1 (joinR a b).2 w) := by
  have HC1 := Lib.hid (rcheck_any A c a w hr)
  have HC2 := Lib.hid (rcheck_any A2 c2 b w hr2)
  by_cases he1 : errW a = 0
  · by_cases he2 : errW b = 0
    · have o1 := errW_zero.1 he1; have o2 := errW_zero.1 he2
      have la := o1.pos_len; have lb := o2.pos_len
      have lla := o1.len; have llb := o2.len
      have hnn : (a.length : Int) * (b.length : Int) = ((a.length * b.length : Nat) : Int) := mulNN _ _
      have hbig : a.length * b.length ≤ 4096 * 4096 := Nat.mul_le_mul lla llb
      have m0 : (0 : Int) ≤ (a.length : Int) * (b.length : Int) := by rw [hnn]; omega
      have m1 : (a.length : Int) * (b.length : Int) ≤ 16777216 := by rw [hnn]; omega
      have HF := Lib.hid (fun hl => joinR_er (fits_long (m := a.length * b.length) he1 he2 hl) (by decide))
      have HF2 := Lib.hid (fun hl ho => joinR_er (fits_over (m := a.length * b.length) he1 he2 hl ho) (by decide))
      have HF3 := Lib.hid (fun hl ho => joinR_ok (fits_ok (m := a.length * b.length) he1 he2 hl ho))
      have HS1 := Lib.hid (rtotal_any A c a w (by omega) o1.nn (by have := o1.le; omega) hr)
      have HS2 := Lib.hid (rtotal_any A2 c2 b w (by omega) o2.nn (by have := o2.le; omega) hr2)
      have HOV := Lib.hid (fun W => rover_any (sumL a) (sumL b) W (by have := o1.pos; omega) (by have := o2.pos; omega) (by have := o1.le; omega) (by have := o2.le; omega))
      rw [he1] at HC1
      rw [he2] at HC2
      by_cases hlong : 4096 < (a.length : Int) * (b.length : Int)
      · have HT := Lib.hid (HF.out hlong)
        clear HF HF2 HF3 HS1 HS2 HOV hr hr2 he1 he2 o1 o2 hnn hbig
        go_enter Try.func53, Try.ntmps53
        go_wp2_with (go_at_call 36; (first | (with_reducible refine HC1.out.mono ?_) | (with_reducible refine HC2.out.mono ?_)); rintro _ _ ⟨rfl, rfl⟩)
        go_ret2
        rw [HT.out]
        exact retSlE_nil (Below.refl _ _)
      · have dl : decide (4096 < (a.length : Int) * (b.length : Int)) = false := by simpa using hlong
        by_cases ho : 1000000000000000 < sumL a * sumL b
        · have HT := Lib.hid (HF2.out hlong ho)
          rw [overB_true ho] at HOV
          obtain ⟨s, hs⟩ : ∃ s, s = sumL a := ⟨_, rfl⟩
          obtain ⟨t, ht⟩ : ∃ t, t = sumL b := ⟨_, rfl⟩
          rw [← hs] at HS1 HOV
          rw [← ht] at HS2 HOV
          clear HF HF2 HF3 hr hr2 he1 he2 o1 o2 ho hs ht hlong hnn hbig
          go_enter Try.func53, Try.ntmps53
          go_wp2_with (first | (go_at_call 36; (first | (with_reducible refine HC1.out.mono ?_) | (with_reducible refine HC2.out.mono ?_)); rintro _ _ ⟨rfl, rfl⟩) | (go_at_call 39; (first | (with_reducible refine HS1.out.mono ?_) | (with_reducible refine HS2.out.mono ?_)); rintro _ _ ⟨rfl, rfl⟩) | (go_at_call 64; refine (HOV.out _).mono ?_; rintro _ w1 ⟨rfl, hb1⟩))
          go_ret2
          rw [HT.out]
          exact retSlE_nil hb1
        · have HT := Lib.hid (HF3.out hlong ho)
          have HP := Lib.hid (fitsPair o1.nn o2.nn (by omega))
          have HA := Lib.hid o1.nn; have HBN := Lib.hid o2.nn
          rw [overB_false ho] at HOV
          obtain ⟨i0, hi, iz0, iz1, iz2⟩ := info_parts infoInt
          obtain ⟨s, hs⟩ : ∃ s, s = sumL a := ⟨_, rfl⟩
          obtain ⟨t, ht⟩ : ∃ t, t = sumL b := ⟨_, rfl⟩
          rw [← hs] at HS1 HOV
          rw [← ht] at HS2 HOV
          have HR := Lib.hid hr; have HR2 := Lib.hid hr2
          have hn4 : a.length * b.length ≤ 4096 := by rw [hnn] at hlong; omega
          have HN4 := Lib.hid hn4
          clear HF HF2 HF3 hr hr2 he1 he2 o1 o2 ho hs ht hlong hnn hbig hn4
          go_enter Try.func53, Try.ntmps53
          go_wp2_with (first | (go_at_call 36; (first | (with_reducible refine HC1.out.mono ?_) | (with_reducible refine HC2.out.mono ?_)); rintro _ _ ⟨rfl, rfl⟩) | (go_at_call 39; (first | (with_reducible refine HS1.out.mono ?_) | (with_reducible refine HS2.out.mono ?_)); rintro _ _ ⟨rfl, rfl⟩) | (go_at_call 64; refine (HOV.out _).mono ?_; rintro _ w1 ⟨rfl, hb1⟩))
          refine gen_w (fun W => W.ownsRow w.heap.size 3 1 (.slice (some ⟨w1.heap.size, 0, none⟩) 0 0) 0 [] ∧ Below w.heap.size w W) ⟨by simpa using World.ownsRow_made (e := 3) (size := 1) w1 #[] 0 (base := w.heap.size) hb1.size (by simp) (by simp), hb1.alloc hb1.size _⟩ ?_
          rintro W0 ⟨how, hbW⟩
          have HO0 : Hid (W0.ownsRow w.heap.size 3 1 (.slice (some ⟨w1.heap.size, 0, none⟩) 0 0) (pairTo a b 0 0).length ((pairTo a b 0 0).map (Value.int .i64))) := (by rw [pairTo_zero]; exact how : W0.ownsRow _ _ _ _ _ _)
          clear how HC1 HC2 HS1 HS2 HOV hb1 m0 m1 dl
          go_loopw [8, 9, 10] (fun v i _ wr => ∃ k : Nat, k ≤ a.length ∧ i = .int .i64 k ∧ Hid (wr.ownsRow w.heap.size 3 1 v (pairTo a b k 0).length ((pairTo a b k 0).map (Value.int .i64))) ∧ Below w.heap.size w wr) (fun _ i _ _ => a.length - (intOf i).toNat)
          case atStart => exact ⟨0, by omega, rfl, HO0, hbW⟩
          case round =>
            obtain ⟨k, hk, rfl, HA1, hbr⟩ := hrel
            by_cases hka : k < a.length
            · rename World => wo
              go_wp2
              go_loopw [8, 10] (fun v j wr => ∃ m : Nat, m ≤ b.length ∧ j = .int .i64 m ∧ Hid (wr.ownsRow w.heap.size 3 1 v (pairTo a b k m).length ((pairTo a b k m).map (Value.int .i64))) ∧ Below w.heap.size w wr) (fun _ j _ => b.length - (intOf j).toNat)
              case atStart => exact ⟨0, by omega, rfl, HA1, hbr⟩
              case round =>
                clear HA1
                obtain ⟨m, hm, rfl, hown, hbr⟩ := hrel
                by_cases hmb : m < b.length
                · obtain ⟨xb, xo, rfl, hxb, cx⟩ := (HR.out.below hbr).int_at hka
                  obtain ⟨zb, zo, rfl, hzb, cz⟩ := (HR2.out.below hbr).int_at hmb
                  have hx := HP.out a[k] (List.getElem_mem hka) b[m] (List.getElem_mem hmb)
                  have HNX : Hid (pairTo a b k (m + 1) = pairTo a b k m ++ [a[k] * b[m]]) := (by rw [pairTo_next a b hmb]; simp [hka] : pairTo a b k (m + 1) = _)
                  have hpl := pairTo_len a b (Nat.le_of_lt hka) (Nat.le_of_lt hmb)
                  have hll : k * b.length ≤ a.length * b.length := Nat.mul_le_mul_right _ (by omega)
                  have hl4 : (pairTo a b k m).length ≤ 8192 := by have := HN4.out; omega
                  obtain ⟨x, hx'⟩ : ∃ x, x = a[k] := ⟨_, rfl⟩
                  obtain ⟨z, hz'⟩ : ∃ z, z = b[m] := ⟨_, rfl⟩
                  rw [← hx'] at cx hx HNX
                  rw [← hz'] at cz hx HNX
                  obtain ⟨p0, p1⟩ := hx
                  have eP : IntKind.i64.wrap (x * z) = x * z := IntWalk.i64_in _ ⟨by omega, by omega⟩
                  have j0 : (0 : Int) ≤ (k : Int) := by omega
                  have j1 : (k : Int) < (a.length : Int) := by omega
                  have j2 : (0 : Int) ≤ (m : Int) := by omega
                  have j3 : (m : Int) < (b.length : Int) := by omega
                  clear hx' hz' hpl hll
                  go_wp2
                  have HOW := Lib.hid (row_below hown.out (Below.refl _ _).drew)
                  have hsz := hbr.size
                  have hnx : some xb ≠ u8.ownBlock := fun e => by have := (hown.out.lt xb e.symm).1; omega
                  have hnz : some zb ≠ u8.ownBlock := fun e => by have := (hown.out.lt zb e.symm).1; omega
                  go_region_held_law (fun w' => w'.cell? ⟨xb, xo + k, none⟩ = some (.int .i64 x) ∧ w'.cell? ⟨zb, zo + m, none⟩ = some (.int .i64 z))
                    (first | exact ⟨cx, cz⟩ | go_keep | exact ⟨by rw [hgrow.cell_far _ (by simp; omega) hnx]; simp [*], by rw [hgrow.cell_far _ (by simp; omega) hnz]; simp [*]⟩)
                    ((refine step_append_lies _ (by rfl) _ _ _ (by rfl) w.heap.size 3 i0 (.int .i64 0) 1 8 uInts hi iz0 iz1 iz2 rfl (by omega) _ _ _ (by rfl) (HOW.out.alloc _) ⟨wr.heap.size, 0, none⟩ 1 1 [.int .i64 (x * z)] (by rfl) (by rfl) (World.news_of_block (cs := #[.int .i64 (x * z)]) (t := 3) (fr := (0, 0)) (heap_alloc_new wr.drew _)) (by simp [Value.oneCell']) (by omega) (by unfold maxLen; omega) (by omega) (by simp; omega) (wr.heap.size + 1) (by simp) ?_; intro gg cap w5 hown5 hgrow hat hgl))
                  have hb5 : Below w.heap.size w w5 := ((hbr.alloc hsz _).drew).grown hgrow (by simp; omega) (fun g hg => (hown.out.lt g hg).1)
                  have HO5 : Hid (w5.ownsRow w.heap.size 3 1 (.slice (some ⟨gg, 0, none⟩) ((pairTo a b k m).length + 1) cap) (pairTo a b k (m + 1)).length ((pairTo a b k (m + 1)).map (Value.int .i64))) := (by rw [HNX.out, List.length_append, List.map_append]; exact hown5 : w5.ownsRow w.heap.size 3 1 (.slice (some ⟨gg, 0, none⟩) ((pairTo a b k m).length + 1) cap) (pairTo a b k (m + 1)).length ((pairTo a b k (m + 1)).map (Value.int .i64)))
                  clear hown5 hgrow hat HOW hnx hnz eP
                  go_wp2
                  go_roundw
                  case rel => exact ⟨m + 1, by omega, by go_num, HO5, hb5⟩
                  case measure => simp [intOf] <;> omega
                · obtain rfl : m = b.length := by omega
                  rw [← pairTo_row a b hka] at hown
                  go_wp2
                  go_roundw
                  case rel => exact ⟨k + 1, by omega, by go_num, hown, hbr⟩
                  case measure => simp [intOf]; omega
            · obtain rfl : k = a.length := by omega
              rw [pairTo_all] at HA1
              obtain ⟨A', c', hv, h4, h5⟩ := sl_of_own (l := pairs a b) (by rw [flat_int]; exact HA1.out)
              subst hv
              have H4 := Lib.hid h4; have H5 := Lib.hid h5
              clear HA1 h4 h5
              go_wp2
              go_ret2
              rw [HT.out]
              exact ⟨A', c', rfl, H4.out, H5.out, hbr⟩
    · have HT := Lib.hid (joinR_er (fits_e2 (m := a.length * b.length) he1 he2) he2)
      have hb : (errW b != 0) = true := by simpa using he2
      rw [he1] at HC1
      obtain ⟨ev, hev⟩ : ∃ ev, ev = errW b := ⟨_, rfl⟩
      rw [← hev] at HC2 hb HT
      clear he1 he2 hr hr2 hev
      go_enter Try.func53, Try.ntmps53
      go_wp2_with (go_at_call 36; (first | (with_reducible refine HC1.out.mono ?_) | (with_reducible refine HC2.out.mono ?_)); rintro _ _ ⟨rfl, rfl⟩)
      go_ret2
      rw [HT.out]
      exact retSlE_nil (Below.refl _ _)
  · have HT := Lib.hid (joinR_er (fits_e1 (b := b) (m := a.length * b.length) he1) he1)
    have hb : (errW a != 0) = true := by simpa using he1
    obtain ⟨ev, hev⟩ : ∃ ev, ev = errW a := ⟨_, rfl⟩
    rw [← hev] at HC1 hb HT
    clear he1 hr hr2 hev HC2
    go_enter Try.func53, Try.ntmps53
    go_wp2_with (go_at_call 36; refine HC1.out.mono ?_; rintro _ _ ⟨rfl, rfl⟩)
    go_ret2
    rw [HT.out]
    exact retSlE_nil (Below.refl _ _)
end Go.Proofs.Ytmfbiohdmhbkoaa

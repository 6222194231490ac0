/- The reference: Mix. -/
import Derived.Test.YtmfbiohdmhbkoaaRg
import Derived.Test.YtmfbiohdmhbkoaaRc
import Derived.Test.YtmfbiohdmhbkoaaHb
namespace Go.Proofs.Ytmfbiohdmhbkoaa
open Go.RowKit

theorem errsW_none : ∀ {ls : List LL}, (∀ x ∈ ls, errW x.l = 0) → errsW ls = 0
  | [], _ => rfl
  | x :: l, h => by
    simp only [errsW]
    rw [if_neg (fun hh => hh (h x (by simp)))]
    exact errsW_none fun y hy => h y (by simp [hy])
theorem mul_div_swap {m t g : Int} (hg : 0 < g) (h1 : g ∣ m) (h2 : g ∣ t) : m * (t / g) = m / g * t := by
  obtain ⟨a, rfl⟩ := h1
  obtain ⟨b, rfl⟩ := h2
  rw [Int.mul_ediv_cancel_left _ (by omega), Int.mul_ediv_cancel_left _ (by omega)]
  ac_rfl
/-- the lists below i are visited -/
def vis0 (i : Nat) : Nat → Bool := fun q => decide (q < i)
theorem vis0_next (i : Nat) : (fun q => vis0 i q || q == i) = vis0 (i + 1) := by
  funext q
  unfold vis0
  by_cases h : q < i
  · simp [h]; omega
  · by_cases h2 : q = i
    · subst h2; simp
    · have h3 : ¬ q < i + 1 := by omega
      simp [h, h2, h3]
theorem mixO_skip {c : List Int} {ls : List (List Int)} {m : Int} {len i : Nat} (hc : c.getD i 0 = 0) : mixO c ls m len (vis0 i) = mixO c ls m len (vis0 (i + 1)) := by
  unfold mixO
  apply List.map_congr_left
  intro t _
  refine sumV_congr fun q _ => ?_
  by_cases h : q = i
  · subst h; exact .inr ⟨by unfold mixT; rw [if_pos hc], by unfold mixT; rw [if_pos hc]⟩
  · refine .inl ⟨?_, rfl⟩
    unfold vis0
    by_cases h2 : q < i
    · have : q < i + 1 := by omega
      simp [h2, this]
    · have : ¬ q < i + 1 := by omega
      simp [h2, this]
theorem mix_some {cs : List Int} {L : List (List Int)} {el m : Int} {X : List Int} (h : mixR cs L el = match comTo (lowL cs) L L.length with
    | none => ([], 10)
    | some m => if 1000000000000000 < sumL (lowL cs) * m then ([], 10) else (lowL (mixO (lowL cs) L m (L.getD 0 []).length (fun _ => true)), 0)) (hc : comTo (lowL cs) L L.length = some m) (hX : X = lowL (mixO (lowL cs) L m (L.getD 0 []).length (fun _ => true))) :
    mixR cs L el = if 1000000000000000 < sumL (lowL cs) * m then ([], 10) else (X, 0) := by rw [h, hc, hX]
theorem mix_none {cs : List Int} {L : List (List Int)} {el : Int} (h : mixR cs L el = match comTo (lowL cs) L L.length with
    | none => ([], 10)
    | some m => if 1000000000000000 < sumL (lowL cs) * m then ([], 10) else (lowL (mixO (lowL cs) L m (L.getD 0 []).length (fun _ => true)), 0)) (hc : comTo (lowL cs) L L.length = none) : mixR cs L el = ([], 10) := by rw [h, hc]
/-- a list is returned that lies in new memory -/
def RetLB (l : List Int) (w : World) (e : Ending) (w' : World) : Prop :=
  ∃ A c, e = .returned (.slice A l.length c) ∧ Sl intCell 1 w' w'.heap.size A l ∧ (A = none → c = 0) ∧ Below w.heap.size w w' ∧ ∀ g, A = some g → w.heap.size ≤ g.block
set_option maxRecDepth 100000 in
set_option maxHeartbeats 4000000 in
theorem rlow_new (A : Option Addr) (c : Nat) (l : List Int) (w : World) (ok : OkW l) (hr : Sl intCell 1 w w.heap.size A l) :
    Calls Try.prog 40 #[.slice A l.length c] w (RetLB (lowL l) w) := by
  obtain ⟨i0, hi, iz0, iz1, iz2⟩ := info_parts infoInt
  have HR := Lib.hid hr
  have hl4 := ok.len
  have HAT := Lib.hid (fun k (hk : k < l.length) => ok.at_ hk)
  have HGB := Lib.hid (fun k => (gL_bd ok.nn k).resolve_right (fun ⟨x, hx, h⟩ => by
    obtain ⟨j, hj, rfl⟩ := List.mem_iff_getElem.1 hx
    have := (ok.at_ hj).2; omega))
  have hgp := ok.gpos
  have hgl := gL_le ok
  have HLL : Hid (lowL l = l.map fun x => x / gL l) := (rfl : lowL l = _)
  clear hr ok
  go_enter Try.func40, Try.ntmps40
  go_wp2
  go_loopw [3, 4] (fun v i wr => ∃ k : Nat, k ≤ l.length ∧ i = .int .i64 k ∧ v = .int .i64 (gL (l.take k)) ∧ Below w.heap.size w wr) (fun _ i _ => l.length - (intOf i).toNat)
  case atStart => exact ⟨0, by omega, rfl, rfl, Below.refl _ _⟩
  case round =>
    obtain ⟨k, hk, rfl, rfl, hbr⟩ := hrel
    by_cases hlt : k < l.length
    · obtain ⟨b, o, rfl, hb, hc⟩ := (HR.out.below hbr).int_at hlt
      obtain ⟨x0, x1⟩ := HAT.out k hlt
      have g0 := gL_nonneg (l.take k)
      have g1 := HGB.out k
      have HS := Lib.hid (gL_take l k hlt)
      have HD := Lib.hid (fun W => rdiv_any (gL (l.take k)) l[k] W g0 x0 (by omega) (by omega))
      rw [← HS.out] at HD
      obtain ⟨s, hs⟩ : ∃ s, s = gL (l.take k) := ⟨_, rfl⟩
      obtain ⟨x, hx⟩ : ∃ x, x = l[k] := ⟨_, rfl⟩
      rw [← hs, ← hx] at HD
      rw [← hs]
      rw [← hx] at hc
      clear hs hx x0 x1 g0 g1
      go_wp2_with (go_at_call 63; refine (HD.out _).mono ?_; rintro _ w1 ⟨rfl, hb1⟩)
      go_roundw
      case rel => exact ⟨k + 1, by omega, by go_num, rfl, bl2 hbr hb1⟩
      case measure => simp [intOf]; omega
    · obtain rfl : k = l.length := by omega
      rw [List.take_length]
      go_wp2
      obtain ⟨g, hg⟩ : ∃ g, g = gL l := ⟨_, rfl⟩
      rw [← hg] at hgp hgl HLL ⊢
      have g00 : (g == 0) = false := by simp; omega
      refine gen_w (fun W => W.ownsRow w.heap.size 3 1 (.slice (some ⟨wr.heap.size, 0, none⟩) 0 0) 0 [] ∧ Below w.heap.size w W) ⟨by simpa using World.ownsRow_made (e := 3) (size := 1) wr #[] 0 (base := w.heap.size) hbr.size (by simp) (by simp), hbr.alloc hbr.size _⟩ ?_
      rintro W0 ⟨how, hbW⟩
      have HOW := Lib.hid how
      clear how hg hbr
      rename World => wx
      go_loopw [5, 6] (fun v i wr => ∃ k : Nat, k ≤ l.length ∧ i = .int .i64 k ∧ Hid (wr.ownsRow w.heap.size 3 1 v k (((l.take k).map fun x => x / g).map (Value.int .i64))) ∧ Below w.heap.size w wr) (fun _ i _ => l.length - (intOf i).toNat)
      case atStart => exact ⟨0, by omega, rfl, HOW.out, hbW⟩
      case round =>
        obtain ⟨k, hk, rfl, hown, hbr⟩ := hrel
        by_cases hlt : k < l.length
        · obtain ⟨b, o, rfl, hb, hc⟩ := (HR.out.below hbr).int_at hlt
          obtain ⟨x0, x1⟩ := HAT.out k hlt
          have HN := Lib.hid (lowTo_next l g hlt)
          obtain ⟨x, hx⟩ : ∃ x, x = l[k] := ⟨_, rfl⟩
          rw [← hx] at hc HN x0 x1
          have q0 : 0 ≤ x / g := Int.ediv_nonneg x0 (by omega)
          have q1 : x / g ≤ x := Int.ediv_le_self _ x0
          clear hx
          have hsz := hbr.size
          go_wp2_with (at_builtin; refine wpList_append_own _ rfl _ _ 22 rfl w.heap.size 3 i0 (.int .i64 0) 1 8 uInts hi iz0 iz1 iz2 rfl (by decide) _ _ _ rfl (hown.out.alloc _) ⟨wr.heap.size, 0, none⟩ 1 1 [.int .i64 (x / g)] rfl rfl (cell_one_new _ _ _) (by simp [Value.oneCell']) (by unfold maxLen; omega) (by omega) (by simp; omega) ?_; intro v' w1 hown1 hgrow _)
          have hb1 : Below w.heap.size w w1 := (hbr.alloc hsz _).grown hgrow (by simp; omega) (fun g hg => (hown.out.lt g hg).1)
          have HO1 : Hid (w1.ownsRow w.heap.size 3 1 v' (k + 1) (((l.take (k + 1)).map fun x => x / g).map (Value.int .i64))) := (by rw [HN.out, List.map_append]; exact hown1 : w1.ownsRow w.heap.size 3 1 v' (k + 1) (((l.take (k + 1)).map fun x => x / g).map (Value.int .i64)))
          clear hown1 hgrow
          go_roundw
          case rel => exact ⟨k + 1, by omega, by go_num, HO1, hb1⟩
          case measure => simp [intOf]; omega
        · obtain rfl : k = l.length := by omega
          have hown := hown.out
          rw [List.take_length, ← HLL.out] at hown
          obtain ⟨A', c', hv, h4, h5⟩ := sl_of_own (l := lowL l) (by rw [lowL_len, flat_int]; exact hown)
          subst hv
          have h6 : ∀ g, A' = some g → w.heap.size ≤ g.block := fun g hg => by
            subst hg
            exact (hown.lt g.block rfl).1
          have H4 := Lib.hid h4; have H5 := Lib.hid h5; have H6 := Lib.hid h6
          clear hown h4 h5 h6
          go_wp2
          go_ret
          exact ⟨A', c', rfl, H4.out, H5.out, hbr, H6.out⟩
theorem cell_far' (W : World) (p q : Addr) (v : Value) (h : q.block ≠ p.block) : (W.setCell p v).cell? q = W.cell? q := by
  unfold World.cell?; rw [Below.heap_setCell W p v q.block h]
theorem sl_drew {W : World} {A : Option Addr} {l : List Int} (h : Sl intCell 1 W W.heap.size A l) : Sl intCell 1 W.drew W.drew.heap.size A l := h.below (Below.refl _ _).drew
theorem sl_far {W : World} {A : Option Addr} {l : List Int} {p : Addr} {v : Value} (h : Sl intCell 1 W W.heap.size A l) (hne : ∀ g, A = some g → g.block ≠ p.block) : Sl intCell 1 (W.setCell p v) (W.setCell p v).heap.size A l := by
  refine ⟨h.1, fun hp => ?_⟩
  obtain ⟨b, o, rfl, hb, hc⟩ := h.2 hp
  exact ⟨b, o, rfl, by rw [World.size_setCell]; exact hb, fun j u hu => by rw [cell_far' W p ⟨b, o + j, none⟩ v (show b ≠ p.block from hne _ rfl)]; exact hc j u hu⟩
set_option maxRecDepth 100000 in
set_option maxHeartbeats 20000000 in
theorem rmix_any (A B : Option Addr) (c d : Nat) (cs : List Int) (ls : List LL) (w : World) (hn : ls.length ≤ 1000000) (hml : ∀ x ∈ ls, x.l.length ≤ 1000000000) (hr : Sl intCell 1 w w.heap.size A cs) (hrl : Lists w w.heap.size B ls) :
    Calls Try.prog 22 #[.slice A cs.length c, .slice B ls.length d] w (RetSlE (mixR cs (plL ls) (errsW ls)).1 (mixR cs (plL ls) (errsW ls)).2 w) := by
  have HC := Lib.hid (rcheck_any A c cs w hr)
  have hll : (plL ls).length = ls.length := plL_len ls
  by_cases he : errW cs = 0
  · rw [he] at HC
    by_cases hlen : ls.length = cs.length
    · have hne : ((ls.length : Int) != (cs.length : Int)) = false := by simp [hlen]
      have ok := errW_zero.1 he
      have h0 : 0 < ls.length := by have := ok.pos_len; omega
      have lsl : ls.length ≤ 4096 := by have := ok.len; omega
      have e0 : (plL ls).getD 0 [] = (ls[0]'h0).l := plL_get ls h0
      have hLL : (plL ls).length = cs.length := by rw [hll]; exact hlen
      have H3 := Lib.hid (fun h => mixR_3 (el := errsW ls) he hLL h)
      have H4 := Lib.hid (fun h h4 => mixR_4 (el := errsW ls) he hLL h h4)
      have H5 := Lib.hid (fun h h4 => mixR_5 (el := errsW ls) he hLL h h4)
      have HOK := Lib.hid ok; have HLEN := Lib.hid hlen; have HE0 := Lib.hid e0
      have HRL := Lib.hid hrl; have HML := Lib.hid hml; have HR := Lib.hid hr; have HL2 := Lib.hid hll
      clear hr hrl he ok e0 hlen hLL hml hll
      have hne2 : ((ls.length : Int) != (cs.length : Int)) = false := hne
      go_enter Try.func22, Try.ntmps22
      go_wp2_with (go_at_call 36; refine HC.out.mono ?_; rintro _ _ ⟨rfl, rfl⟩)
      go_loop [7, 8] (fun i _ => ∃ k : Nat, k ≤ ls.length ∧ i = .int .i64 k ∧ Hid (∀ x ∈ ls.take k, errW x.l = 0)) (fun i _ => ls.length - (intOf i).toNat)
      case atStart => exact ⟨0, by omega, rfl, fun x hx => by simp at hx⟩
      case round =>
        obtain ⟨k, hk, rfl, HE⟩ := hrel
        by_cases hlt : k < ls.length
        · obtain ⟨lb, lo, rfl, hlb, hlc, hlr⟩ := HRL.out.at_ hlt
          have HEA := Lib.hid (fun h => errsW_at hlt HE.out h)
          have HTK := Lib.hid (List.take_succ_eq_append_getElem hlt)
          have HCK := Lib.hid (rcheck_any ls[k].a ls[k].c ls[k].l w hlr)
          obtain ⟨x, hx⟩ : ∃ x, x = ls[k] := ⟨_, rfl⟩
          rw [← hx] at HEA HTK HCK hlc
          clear hx hlr
          by_cases hz : errW x.l = 0
          · rw [hz] at HCK
            have HZ := Lib.hid hz
            clear hz HEA
            go_wp2_with (go_at_call 36; refine HCK.out.mono ?_; rintro _ _ ⟨rfl, rfl⟩)
            go_round
            case rel => exact ⟨k + 1, by omega, by go_num, fun y hy => by
              rw [HTK.out] at hy
              rcases List.mem_append.1 hy with h | h
              · exact HE.out y h
              · rw [List.mem_singleton.1 h]; exact HZ.out⟩
            case measure => simp [intOf]; omega
          · have he := HEA.out hz
            have HT := Lib.hid (H3.out (by rw [he]; exact hz))
            have hb : (errW x.l != 0) = true := by simpa using hz
            rw [he] at HT ⊢
            obtain ⟨ev, hev⟩ : ∃ ev, ev = errW x.l := ⟨_, rfl⟩
            rw [← hev] at HT hb HCK ⊢
            clear hz he hev HEA
            go_wp2_with (go_at_call 36; refine HCK.out.mono ?_; rintro _ _ ⟨rfl, rfl⟩)
            go_ret2
            rw [HT.out]
            exact retSlE_nil (Below.refl _ _)
        · obtain rfl : k = ls.length := by omega
          have hok : ∀ x ∈ ls, errW x.l = 0 := by have h := HE.out; rw [List.take_length] at h; exact h
          have hel := errsW_none hok
          have HOKS := Lib.hid hok
          have H4 := Lib.hid (H4.out hel); have H5 := Lib.hid (H5.out hel)
          clear hok hel HE H3 hlt
          obtain ⟨len, hlenE⟩ : ∃ n, n = (ls[0]'h0).l.length := ⟨_, rfl⟩
          have HLE := Lib.hid hlenE
          have hlen9 : len ≤ 4096 := by rw [hlenE]; exact (errW_zero.1 (HOKS.out _ (List.getElem_mem h0))).len
          clear hlenE
          go_wp2
          go_loopw [9] (fun i wr => ∃ k : Nat, 1 ≤ k ∧ k ≤ ls.length ∧ i = .int .i64 k ∧ Hid (∀ x ∈ ls.take k, x.l.length = len) ∧ Below w.heap.size w wr) (fun i _ => ls.length - (intOf i).toNat)
          case atStart => exact ⟨1, by omega, by omega, rfl, (fun x hx => by
            have e : ls.take 1 = [ls[0]'h0] := by rw [List.take_one, List.head?_eq_getElem?, List.getElem?_eq_getElem h0]; rfl
            rw [e] at hx
            rw [List.mem_singleton.1 hx]; exact HLE.out.symm), Below.refl _ _⟩
          case round =>
            clear hk
            obtain ⟨k, hk1, hk, rfl, HE, hbr⟩ := hrel
            have hzr := hbr.size
            by_cases hlt : k < ls.length
            · obtain ⟨lb, lo, hB, hlb, hlc, hlr⟩ := (HRL.out.below hbr).at_ hlt
              obtain ⟨lb', lo', hB', hlb', hlc0, hlr'⟩ := (HRL.out.below hbr).at_ h0
              subst hB
              simp only [Option.some.injEq, Addr.mk.injEq, and_true] at hB'
              obtain ⟨rfl, rfl⟩ := hB'
              have HTK := Lib.hid (List.take_succ_eq_append_getElem hlt)
              have HMEM := Lib.hid (List.getElem_mem hlt)
              rw [← HLE.out] at hlc0
              obtain ⟨x0, hx0⟩ : ∃ x, x = ls[0]'h0 := ⟨_, rfl⟩
              rw [← hx0] at hlc0
              obtain ⟨x, hx⟩ : ∃ x, x = ls[k] := ⟨_, rfl⟩
              rw [← hx] at HTK HMEM hlc
              simp only [Nat.add_zero] at hlc0
              have hk0 : (0 : Int) ≤ (k : Int) := by omega
              have hkl : (k : Int) < (ls.length : Int) := by omega
              have h0l : (0 : Int) < (ls.length : Int) := by omega
              clear hx hx0 hlr hlr'
              by_cases hq : x.l.length = len
              · have d1 : ((x.l.length : Int) != (len : Int)) = false := by simp [hq]
                have HQ := Lib.hid hq
                clear hq
                go_wp2
                (refine wp_region_ext (by kernel_rfl) (by kernel_rfl) ?_; (repeat (go_big_quiet_step((fail)))); with_reducible refine wpQuiet_nil ?_; intro w9 hw9; have hb9 := ext_below hw9; clear hw9)
                go_wp2
                go_roundw
                case rel => exact ⟨k + 1, by omega, by omega, by go_num, (fun y hy => by
                  rw [HTK.out] at hy
                  rcases List.mem_append.1 hy with h | h
                  · exact HE.out y h
                  · rw [List.mem_singleton.1 h]; exact HQ.out), bl2 hbr hb9⟩
                case measure => simp [intOf]; omega
              · have d1 : ((x.l.length : Int) != (len : Int)) = true := by simp; omega
                have HT := Lib.hid (H4.out (by
                  rw [HE0.out, any_pl, ← HLE.out]
                  exact List.any_eq_true.2 ⟨x, HMEM.out, by unfold neLen; simpa using hq⟩))
                clear hq
                go_wp2
                (refine wp_region_ext (by kernel_rfl) (by kernel_rfl) ?_; (repeat (go_big_quiet_step((fail)))); with_reducible refine wpQuiet_nil ?_; intro w9 hw9; have hb9 := ext_below hw9; clear hw9)
                go_wp2
                go_ret2
                rw [HT.out]
                exact retSlE_nil (bl2 hbr hb9)
            · obtain rfl : k = ls.length := by omega
              have hall : ∀ x ∈ ls, x.l.length = len := by have h := HE.out; rw [List.take_length] at h; exact h
              have HT := Lib.hid (H5.out (by
                rw [HE0.out, any_pl, ← HLE.out, List.any_eq_false]
                intro x hx
                simp [neLen, hall x hx]))
              have MK : MixOk (lowL cs) (plL ls) len := ⟨by rw [HL2.out, lowL_len]; exact HLEN.out, low_nn HOK.out, fun i hi => by
                rw [HL2.out] at hi
                rw [plL_get ls hi]; exact errW_zero.1 (HOKS.out _ (List.getElem_mem hi)), fun i hi => by
                rw [HL2.out] at hi
                rw [plL_get ls hi]; exact hall _ (List.getElem_mem hi)⟩
              have HMK := Lib.hid MK
              have HLW := Lib.hid (rlow_any A c cs wr HOK.out ((HR.out.below hbr).more hzr))
              have HNO := Lib.hid (mix_none HT.out)
              have HSO := Lib.hid (fun m X => mix_some (m := m) (X := X) HT.out)
              have HLQ := Lib.hid (low_ok HOK.out)
              have hCL : (lowL cs).length = ls.length := by rw [lowL_len]; exact HLEN.out.symm
              rw [HE0.out, ← HLE.out] at HSO
              obtain ⟨C, hC⟩ : ∃ C, C = lowL cs := ⟨_, rfl⟩
              rw [← hC] at HMK HLW HNO HSO HLQ hCL
              have HCL := Lib.hid hCL
              clear hC MK hall HT HE hCL hlt hk1 H4 H5 HOK
              have hC1 : C.length ≤ ls.length := by have := HCL.out; omega
              go_wp2_with (go_at_call 40; refine HLW.out.mono ?_; rintro _ w1 ⟨A1, c1, rfl, hs1, -, hb1⟩)
              have hw1 := bl2 hbr hb1
              have HS1 := Lib.hid hs1
              have h00 : Hid (comTo C (plL ls) 0 = some 1) := (rfl : comTo C (plL ls) 0 = some 1)
              clear hs1 hb1 HLW hbr
              go_loopw [11, 12, 13, 14] (fun vm vi _ _ wr => ∃ (k : Nat) (m : Int), k ≤ ls.length ∧ vi = .int .i64 k ∧ vm = .int .i64 m ∧ 1 ≤ m ∧ m ≤ 1000000000000000 ∧ Hid (comTo C (plL ls) k = some m) ∧ Below w.heap.size w wr ∧ Hid (Sl intCell 1 wr wr.heap.size A1 C)) (fun _ vi _ _ _ => ls.length - (intOf vi).toNat)
              case atStart => exact ⟨0, 1, by omega, rfl, rfl, by omega, by omega, h00, hw1, HS1⟩
              case round =>
                clear h00 hw1 HS1
                obtain ⟨k, m, hk', rfl, rfl, m0, m1, HCO, hbr, HSC⟩ := hrel
                by_cases hlt : k < ls.length
                · have kC : k < C.length := by have := HCL.out; omega
                  obtain ⟨cb, co, rfl, hcb, cc⟩ := HSC.out.int_at kC
                  have eC := getD_at C kC
                  have hk0 : (0 : Int) ≤ (k : Int) := by omega
                  have hkl : (k : Int) < (ls.length : Int) := by omega
                  have hkC : (k : Int) < (C.length : Int) := by omega
                  by_cases hc : C[k] = 0
                  · have HCN := Lib.hid (comTo_zero HCO.out (by rw [eC]; exact hc))
                    rw [hc] at cc
                    clear hc eC
                    go_wp2
                    go_roundw
                    case rel => exact ⟨k + 1, m, by omega, by go_num, rfl, m0, m1, HCN, hbr, HSC⟩
                    case measure => simp [intOf]; omega
                  · have cn0 : (C[k] == 0) = false := by simpa using hc
                    obtain ⟨lb, lo, rfl, hlb, hlc, hlr⟩ := (HRL.out.below hbr).at_ hlt
                    have okx := errW_zero.1 (HOKS.out _ (List.getElem_mem hlt))
                    have eT : (plL ls).getD k [] = ls[k].l := plL_get ls hlt
                    have okT := low_ok okx
                    have HLW := Lib.hid (rlow_any ls[k].a ls[k].c ls[k].l wr okx (hlr.more hbr.size))
                    have HY := Lib.hid (fun q => comTo_yes (q := q) HCO.out (by rw [eC]; exact hc))
                    have HNo := Lib.hid (fun q => comTo_no (q := q) HCO.out (by rw [eC]; exact hc))
                    rw [eT] at HY HNo
                    have t1 := okT.pos; have t2 := okT.le; have tl := okT.len; have tn := okT.nn
                    obtain ⟨x, hx⟩ : ∃ x, x = ls[k] := ⟨_, rfl⟩
                    rw [← hx] at hlc HLW HY HNo t1 t2 tl tn
                    obtain ⟨T, hT⟩ : ∃ T, T = lowL x.l := ⟨_, rfl⟩
                    rw [← hT] at HLW HY HNo t1 t2 tl tn
                    have HRT : Hid (∀ W d (B : Option Addr), Sl intCell 1 W W.heap.size B T → Calls Try.prog 39 #[.slice B T.length d] W fun e w' => e = .returned (.int .i64 (sumL T)) ∧ W = w') := (fun W d B h => rtotal_any B d T W (by omega) tn (by omega) h : ∀ W d (B : Option Addr), _)
                    have gp : 0 < gI m (sumL T) := gI_pos (.inl (by omega))
                    have gl := gI_le_left (sumL T) (show 0 < m by omega)
                    have hsw := mul_div_swap gp (gI_dvd_left (b := sumL T) (show 0 ≤ m by omega)) (gI_dvd_right (a := m) (show 0 ≤ sumL T by omega))
                    have HRD := Lib.hid (fun W => rdiv_any m (sumL T) W (by omega) (by omega) (by omega) (by omega))
                    have q0 : 1 ≤ m / gI m (sumL T) := Int.le_ediv_of_mul_le gp (by omega)
                    have q1 : m / gI m (sumL T) ≤ m := Int.ediv_le_self _ (by omega)
                    have HOVR := Lib.hid (fun W => rover_any (m / gI m (sumL T)) (sumL T) W (by omega) (by omega) (by omega) (by omega))
                    have HY2 := Lib.hid (HY.out _ rfl)
                    have HNo2 := Lib.hid (HNo.out _ rfl)
                    rw [hsw] at HY2 HNo2
                    obtain ⟨t, ht⟩ : ∃ t, t = sumL T := ⟨_, rfl⟩
                    rw [← ht] at HRT gp gl HRD q0 q1 HOVR HY2 HNo2 t1 t2
                    obtain ⟨g, hg⟩ : ∃ g, g = gI m t := ⟨_, rfl⟩
                    rw [← hg] at gp gl HRD q0 q1 HOVR HY2 HNo2
                    have g00 : (g == 0) = false := by simp; omega
                    obtain ⟨q, hq⟩ : ∃ q, m / g = q := ⟨_, rfl⟩
                    rw [hq] at q0 q1 HOVR HY2 HNo2
                    have p0 : 1 * 1 ≤ q * t := Int.mul_le_mul q0 t1 (by omega) (by omega)
                    clear hx hT hlr okx okT eT eC HY HNo hsw ht hg tn hc
                    by_cases hov : 1000000000000000 < q * t
                    · have HT := Lib.hid (HNO.out (comTo_none (HNo2.out (by omega)) _ (by rw [HL2.out]; omega)))
                      rw [overB_true hov] at HOVR
                      clear HY2 HNo2 hov
                      go_wp2_with (first | (go_at_call 40; refine HLW.out.mono ?_; rintro _ w2 ⟨A2, c2, rfl, hs2, -, hb2⟩) | (go_at_call 39; refine (HRT.out _ _ _ hs2).mono ?_; rintro _ _ ⟨rfl, rfl⟩) | (go_at_call 63; refine (HRD.out _).mono ?_; rintro _ w3 ⟨rfl, hb3⟩) | (go_at_call 64; refine (HOVR.out _).mono ?_; rintro _ w4 ⟨rfl, hb4⟩))
                      go_ret2
                      rw [HT.out]
                      exact retSlE_nil (bl2 (bl2 (bl2 hbr hb2) hb3) hb4)
                    · have HCN := Lib.hid (HY2.out (by omega))
                      rw [overB_false hov] at HOVR
                      have p1 : q * t ≤ 1000000000000000 := by omega
                      clear HY2 HNo2 hov
                      go_wp2_with (first | (go_at_call 40; refine HLW.out.mono ?_; rintro _ w2 ⟨A2, c2, rfl, hs2, -, hb2⟩) | (go_at_call 39; refine (HRT.out _ _ _ hs2).mono ?_; rintro _ _ ⟨rfl, rfl⟩) | (go_at_call 63; refine (HRD.out _).mono ?_; rintro _ w3 ⟨rfl, hb3⟩) | (go_at_call 64; refine (HOVR.out _).mono ?_; rintro _ w4 ⟨rfl, hb4⟩))
                      have hx4 := bl2 (bl2 hb2 hb3) hb4
                      go_roundw
                      case rel => exact ⟨k + 1, q * t, by omega, by go_num, rfl, by omega, p1, HCN, bl2 hbr hx4, ((HSC.out.below hx4).more hx4.size : Sl intCell 1 _ _ _ C)⟩
                      case measure => simp [intOf] <;> omega
                · obtain rfl : k = ls.length := by omega
                  have HS := Lib.hid (HSO.out m (lowL (mixO C (plL ls) m len (fun _ => true))) (by rw [HL2.out]; exact HCO.out) rfl)
                  have cp := HLQ.out.pos; have cq := HLQ.out.le; have cl := HLQ.out.len
                  have HTOT := Lib.hid (rtotal_any A1 c1 C wr (by omega) HLQ.out.nn (by omega) HSC.out)
                  have HOVR := Lib.hid (fun W => rover_any (sumL C) m W (by omega) (by omega) (by omega) (by omega))
                  have hdv := (comTo_ok HMK.out _ (Nat.le_of_eq HL2.out.symm) m HCO.out).2.2
                  rw [← HL2.out] at hdv
                  by_cases hov : 1000000000000000 < sumL C * m
                  · have HT : Hid (mixR cs (plL ls) (errsW ls) = ([], 10)) := (by rw [HS.out, if_pos hov] : mixR cs (plL ls) (errsW ls) = _)
                    rw [overB_true hov] at HOVR
                    obtain ⟨s, hs⟩ : ∃ s, s = sumL C := ⟨_, rfl⟩
                    rw [← hs] at HTOT HOVR
                    clear hov hs hdv cp cq cl
                    go_wp2_with (first | (go_at_call 39; refine HTOT.out.mono ?_; rintro _ _ ⟨rfl, rfl⟩) | (go_at_call 64; refine (HOVR.out _).mono ?_; rintro _ w4 ⟨rfl, hb4⟩))
                    go_ret2
                    rw [HT.out]
                    exact retSlE_nil (bl2 hbr hb4)
                  · have HT : Hid (mixR cs (plL ls) (errsW ls) = (lowL (mixO C (plL ls) m len (fun _ => true)), 0)) := (by rw [HS.out, if_neg hov] : mixR cs (plL ls) (errsW ls) = _)
                    have hcm : sumL C * m ≤ 1000000000000000 := by omega
                    have HBD := Lib.hid (fun vis j (hj : j < len) => mixO_bd (j := j) HMK.out m0 hdv hcm vis hj)
                    have HTB := Lib.hid (fun j i (hj : j < len) hi => mixT_bd HMK.out m0 hdv hcm (j := j) (i := i) hj hi)
                    have HSUM := Lib.hid (mixO_sum HMK.out hdv)
                    have HNN := Lib.hid (mixO_nn HMK.out m0 (fun _ => true))
                    have okO : OkW (mixO C (plL ls) m len (fun _ => true)) := ⟨by rw [mixO_len]; exact hlen9, HNN.out, by
                      rw [HSUM.out]
                      have := Int.mul_le_mul cp m0 (by omega) (by omega)
                      omega, by rw [HSUM.out]; exact hcm⟩
                    have HOKO := Lib.hid okO
                    have HCM := Lib.hid hcm
                    rw [overB_false hov] at HOVR
                    obtain ⟨s, hs⟩ : ∃ s, s = sumL C := ⟨_, rfl⟩
                    rw [← hs] at HTOT HOVR
                    obtain ⟨lb', lo', rfl, hlb', hlc0, -⟩ := (HRL.out.below hbr).at_ h0
                    rw [← HLE.out] at hlc0
                    obtain ⟨x0, hx0⟩ : ∃ x, x = ls[0]'h0 := ⟨_, rfl⟩
                    rw [← hx0] at hlc0
                    simp only [Nat.add_zero] at hlc0
                    have h0l : (0 : Int) < (ls.length : Int) := by omega
                    have hzz := hbr.size
                    obtain ⟨i0, hi, iz0, iz1, iz2⟩ := info_parts infoInt
                    clear hov hs hdv cp cq hcm okO HSUM HNN HS hx0
                    go_wp2_with (first | (go_at_call 39; refine HTOT.out.mono ?_; rintro _ _ ⟨rfl, rfl⟩) | (go_at_call 64; refine (HOVR.out _).mono ?_; rintro _ w4 ⟨rfl, hb4⟩; have hlc0 := (hb4.cell (p := ⟨lb', lo', none⟩) (show lb' < wr.heap.size by omega)).trans hlc0) |
                      (at_make; refine wpList_make_arr _ rfl _ _ rfl i0 uInts hi iz0 iz1 iz2 .i64 .i64 _ _ len rfl rfl rfl rfl (by omega) ?_; intro w5 ha5 hb5))
                    have hw4 := bl2 hbr hb4
                    have HS4 := Lib.hid ((HSC.out.below hb4).more hb4.size)
                    obtain ⟨ob, hob⟩ : ∃ v, v = w4.heap.size := ⟨_, rfl⟩
                    have hzw : w.heap.size ≤ ob := by rw [hob]; exact hw4.size
                    have hobl : ob < w5.heap.size := by have := ha5.lt_; omega
                    have HB5 : Hid (Below ob w4 w5) := (by rw [hob]; exact hb5 : Below ob w4 w5)
                    have HA5 : Hid (Arr w5 ob (mixO C (plL ls) m len (vis0 0))) := (by
                      rw [mixO_start (vis := vis0 0) (fun q _ _ => by simp [vis0]), hob]; exact ha5 : Arr w5 ob _)
                    have HS4' : Hid (Sl intCell 1 w4 ob A1 C) := (by rw [hob]; exact HS4.out : Sl intCell 1 w4 ob A1 C)
                    rw [← hob]
                    clear ha5 hb5 hob hb4 HS4 hlc0 HOVR HTOT
                    refine Lib.hid ?_
                    go_wp2
                    go_loopw [16, 17, 18, 19] (fun vi _ _ _ wr => ∃ k : Nat, k ≤ ls.length ∧ vi = .int .i64 k ∧ Hid (Arr wr ob (mixO C (plL ls) m len (vis0 k))) ∧ Hid (Below ob w4 wr)) (fun vi _ _ _ _ => ls.length - (intOf vi).toNat)
                    case atStart => exact ⟨0, by omega, rfl, HA5, HB5⟩
                    case round =>
                      clear HA5 HB5
                      obtain ⟨k, hk4, rfl, HAq, HBq⟩ := hrel
                      have hol := HAq.out.lt_
                      have hwq := hw4.trans (HBq.out.mono hzw)
                      by_cases hlt : k < ls.length
                      · have kC : k < C.length := by have := HCL.out; omega
                        obtain ⟨cb, co, hA1, hcb, cc⟩ := (HS4'.out.below HBq.out).int_at kC
                        have eC := getD_at C kC
                        have hk0 : (0 : Int) ≤ (k : Int) := by omega
                        have hkl : (k : Int) < (ls.length : Int) := by omega
                        have hkC : (k : Int) < (C.length : Int) := by omega
                        subst hA1
                        by_cases hc : C[k] = 0
                        · have HSK : Hid (mixO C (plL ls) m len (vis0 k) = mixO C (plL ls) m len (vis0 (k + 1))) := (mixO_skip (by rw [eC]; exact hc) : mixO C (plL ls) m len (vis0 k) = mixO C (plL ls) m len (vis0 (k + 1)))
                          rw [hc] at cc
                          clear hc eC
                          go_wp2
                          go_roundw
                          case rel => exact ⟨k + 1, by omega, by go_num, (by rw [← HSK.out]; exact HAq.out : Arr _ ob _), HBq⟩
                          case measure => simp [intOf]; omega
                        · have cn0 : (C[k] == 0) = false := by simpa using hc
                          obtain ⟨lb, lo, hBB, hlb, hlc, hlr⟩ := (HRL.out.below hwq).at_ hlt
                          simp only [Option.some.injEq, Addr.mk.injEq, and_true] at hBB
                          obtain ⟨rfl, rfl⟩ := hBB
                          have okx := errW_zero.1 (HOKS.out _ (List.getElem_mem hlt))
                          have eT : (plL ls).getD k [] = ls[k].l := plL_get ls hlt
                          have hkL : k < (plL ls).length := by rw [HL2.out]; exact hlt
                          have eqT : (lowL ((plL ls).getD k [])).length = len := by rw [lowL_len]; exact HMK.out.eq k hkL
                          have okT := low_ok okx
                          have HLW := Lib.hid (rlow_new ls[k].a ls[k].c ls[k].l wr okx (hlr.more hwq.size))
                          have HNX := Lib.hid (fun j hj => mixP_next (c := C) (ls := plL ls) (m := m) (len := len) (vis := vis0 k) (i := k) (j := j) hj hkL (by simp [vis0]))
                          have HTT := Lib.hid (fun j => mixT_eq (m := m) (ls := plL ls) (j := j) (i := k) (C := C) (by rw [eC]; exact hc))
                          have HTB1 := Lib.hid (fun j hj => HTB.out j k hj hkL)
                          rw [eC] at HTT
                          rw [eT] at HTT eqT
                          have t1 := okT.pos; have t2 := okT.le; have tn := okT.nn
                          have x0' := HLQ.out.nn _ (List.getElem_mem kC)
                          have xs := le_sumL HLQ.out.nn kC
                          have hdm : sumL (lowL ((plL ls).getD k [])) ∣ m := (comTo_ok HMK.out _ (Nat.le_of_eq HL2.out.symm) m HCO.out).2.2 k hlt (by rw [eC]; exact hc)
                          rw [eT] at hdm
                          obtain ⟨x, hx⟩ : ∃ x, x = ls[k] := ⟨_, rfl⟩
                          rw [← hx] at hlc HLW HTT eqT t1 t2 tn hdm
                          obtain ⟨T, hT⟩ : ∃ T, T = lowL x.l := ⟨_, rfl⟩
                          rw [← hT] at HLW HTT eqT t1 t2 tn hdm
                          have HRT : Hid (∀ W d (B : Option Addr), Sl intCell 1 W W.heap.size B T → Calls Try.prog 39 #[.slice B T.length d] W fun e w' => e = .returned (.int .i64 (sumL T)) ∧ W = w') := (fun W d B h => rtotal_any B d T W (by omega) tn (by omega) h : ∀ W d (B : Option Addr), _)
                          obtain ⟨ci, hci⟩ : ∃ ci, ci = C[k] := ⟨_, rfl⟩
                          have HCI := Lib.hid hci
                          rw [← hci] at cc cn0 HTT x0' xs hc
                          obtain ⟨t, ht⟩ : ∃ t, t = sumL T := ⟨_, rfl⟩
                          rw [← ht] at HRT HTT t1 t2 hdm
                          have mt1 : 1 ≤ m / t := Int.le_ediv_of_mul_le (by omega) (by have := Int.le_of_dvd (by omega) hdm; omega)
                          have mt2 : m / t ≤ m := Int.ediv_le_self _ (by omega)
                          have t00 : (t == 0) = false := by simp; omega
                          obtain ⟨mt, hmt⟩ : ∃ mt, m / t = mt := ⟨_, rfl⟩
                          rw [hmt] at HTT mt1 mt2
                          have HXS : Hid (ci ≤ sumL C) := xs
                          have HTL := Lib.hid eqT
                          clear hx hT hlr okx okT eT eC tn hdm ht hci eqT hkL xs hc
                          go_wp2_with (first | (go_at_call 40; refine HLW.out.mono ?_; rintro _ w6 ⟨A5, c5, rfl, hs6, -, hb6, hn6⟩) | (go_at_call 39; refine (HRT.out _ _ _ hs6).mono ?_; rintro _ _ ⟨rfl, rfl⟩))
                          have HA6 : Hid (Arr w6 ob (mixP C (plL ls) m len (vis0 k) k 0)) := (by rw [mixP_zero]; exact HAq.out.below hb6 hol : Arr w6 ob _)
                          have HB6 : Hid (Below ob w4 w6) := (HBq.out.trans (hb6.mono (by omega)) : Below ob w4 w6)
                          have HS6 := Lib.hid hs6
                          have HN6 : Hid (∀ g, A5 = some g → g.block ≠ ob) := (fun g hg => by have := hn6 g hg; omega : ∀ g, A5 = some g → g.block ≠ ob)
                          obtain ⟨wo, rfl⟩ : ∃ wo : World, wo = wr := ⟨_, rfl⟩
                          clear hs6 hb6 hn6 cc hlc
                          go_loopw [19] (fun s wq => ∃ j : Nat, j ≤ len ∧ s = .int .i64 j ∧ Hid (Below ob w4 wq) ∧ Hid (Arr wq ob (mixP C (plL ls) m len (vis0 k) k j)) ∧ Hid (Sl intCell 1 wq wq.heap.size A5 T)) (fun s _ => len - (intOf s).toNat)
                          case atStart => exact ⟨0, by omega, rfl, HB6, HA6, HS6⟩
                          case round =>
                            clear HB6 HA6 HS6
                            obtain ⟨j, hj, rfl, HBq2, HAq2, HSq⟩ := hrel
                            have hTL := HTL.out
                            by_cases hjl : j < len
                            · have hjT : j < T.length := by omega
                              obtain ⟨tb, tO, hA5, htb, cy⟩ := HSq.out.int_at hjT
                              have hnb : tb ≠ ob := HN6.out _ hA5
                              obtain ⟨cb', co', hA1', -, cc⟩ := (HS4'.out.below HBq2.out).int_at kC
                              simp only [Option.some.injEq, Addr.mk.injEq, and_true] at hA1'
                              obtain ⟨rfl, rfl⟩ := hA1'
                              rw [← HCI.out] at cc
                              have cA := HAq2.out.at_ (j := j) (by rw [mixP_len]; exact hjl)
                              have fo := Blk.free HAq2.out j
                              have hnx := HNX.out j hjl
                              have htt := HTT.out j
                              have htb1 := HTB1.out j hjl
                              have hbd0 := HBD.out (if j < j then (fun q => vis0 k q || q == k) else vis0 k) j hjl
                              have hbd1 := HBD.out (if j < j + 1 then (fun q => vis0 k q || q == k) else vis0 k) j hjl
                              rw [← mixP_get (i := k) hjl] at hbd0
                              rw [← mixP_get (i := k) hjl] at hbd1
                              have hgx : (mixP C (plL ls) m len (vis0 k) k (j + 1))[j]'(by rw [mixP_len]; exact hjl) = (mixP C (plL ls) m len (vis0 k) k j)[j]'(by rw [mixP_len]; exact hjl) + mixT C (plL ls) m j k := by
                                simp only [hnx, List.getElem_set_self]
                              rw [hgx] at hbd1
                              rw [getD_at T hjT] at htt
                              rw [htt] at hnx htb1 hbd1
                              have tj0 : 0 ≤ T[j] ∨ T[j] < 0 := by omega
                              obtain ⟨y, hy⟩ : ∃ v, v = T[j] := ⟨_, rfl⟩
                              rw [← hy] at cy hnx htb1 hbd1 tj0
                              obtain ⟨o, ho⟩ : ∃ v, v = (mixP C (plL ls) m len (vis0 k) k j)[j]'(by rw [mixP_len]; exact hjl) := ⟨_, rfl⟩
                              rw [← ho] at cA hnx hbd0 hbd1
                              have e1 : y * (ci * mt) = ci * y * mt := by ac_rfl
                              rw [e1] at hnx htb1 hbd1
                              obtain ⟨yt0, yt1⟩ := htb1
                              obtain ⟨o0, o1⟩ := hbd0
                              obtain ⟨v0, v1⟩ := hbd1
                              have HNX2 := Lib.hid hnx
                              have cy0 : 0 ≤ ci * y := by
                                rcases Int.lt_or_le (ci * y) 0 with h | h
                                · have := Int.mul_neg_of_neg_of_pos h (show 0 < mt by omega)
                                  omega
                                · exact h
                              have cy1 : ci * y ≤ 1000000000000000 := by
                                have h1 := Int.mul_le_mul_of_nonneg_left mt1 cy0
                                rw [Int.mul_one] at h1
                                omega
                              have hj0 : (0 : Int) ≤ (j : Int) := by omega
                              have hj1 : (j : Int) < (len : Int) := by omega
                              have hjT1 : (j : Int) < (T.length : Int) := by omega
                              have HNB : Hid (∀ g, A5 = some g → g.block ≠ ob) := HN6
                              have hq2 := HBq2.out
                              have nz1 : ob ≠ tb := fun e => hnb e.symm
                              have nz2 : ob ≠ cb := by omega
                              have nz3 : cb ≠ ob := by omega
                              subst hA5
                              clear hnx htt hgx hy ho e1 hTL tj0
                              go_wp2
                              go_region
                              all_goals (
                                go_wp2
                                go_roundw
                                case rel => exact ⟨j + 1, by omega, by go_num, (by (repeat (first | exact Below.refl _ _ | assumption | (refine Below.alloc ?_ (by first | omega | (simp; omega) | (simp; done)) _) | (refine Below.setCell ?_ (by first | omega | (simp; omega) | (simp; done)) _) | (refine Below.drew ?_) | (refine belowN ?_ _) | (refine Below.trans ?_ (Below.mono ‹Below _ _ _› (by first | omega | (simp; omega) | (simp; done)))))) : Below ob w4 _), (by rw [HNX2.out]; exact HAq2.out.put j _ : Arr _ ob _), (sl_drew (sl_far HSq.out HNB.out) : Sl intCell 1 _ _ _ T)⟩
                                case measure => simp [intOf] <;> omega)
                            · obtain rfl : j = len := by omega
                              have HE2 : Hid (mixP C (plL ls) m j (vis0 k) k j = mixO C (plL ls) m j (vis0 (k + 1))) := (by rw [mixP_all, vis0_next] : mixP C (plL ls) m j (vis0 k) k j = mixO C (plL ls) m j (vis0 (k + 1)))
                              have hTj1 : T.length ≤ j := by omega
                              have hTj2 : j ≤ T.length := by omega
                              clear hTL
                              go_wp2
                              go_roundw
                              case rel => exact ⟨k + 1, by omega, by go_num, (by rw [← HE2.out]; exact HAq2.out : Arr _ ob _), HBq2⟩
                              case measure => simp [intOf]; omega
                      · obtain rfl : k = ls.length := by omega
                        have hAe : Arr wr ob (mixO C (plL ls) m len (fun _ => true)) := by
                          have e := mixO_end (c := C) (ls := plL ls) (m := m) (len := len) (vis := vis0 ls.length) (fun q hq _ => by rw [HL2.out] at hq; simp [vis0, hq])
                          rw [← e]; exact HAq.out
                        have HLO := rlow_any (some ⟨ob, 0, none⟩) len (mixO C (plL ls) m len (fun _ => true)) wr HOKO.out hAe.sl
                        rw [mixO_len] at HLO
                        have HLW := Lib.hid HLO
                        clear hAe HLO
                        obtain ⟨X, hX⟩ : ∃ X, X = lowL (mixO C (plL ls) m len (fun _ => true)) := ⟨_, rfl⟩
                        rw [← hX] at HLW HT
                        clear hX
                        go_wp2_with (go_at_call 40; refine HLW.out.mono ?_; rintro _ wz ⟨Az, cz, rfl, hsz, hzz', hbz⟩)
                        go_ret2
                        rw [HT.out]
                        exact ⟨Az, cz, rfl, hsz, hzz', bl2 hwq hbz⟩
    · have hne : ((ls.length : Int) != (cs.length : Int)) = true := by simp; omega
      have HT : Hid (mixR cs (plL ls) (errsW ls) = ([], 2)) := (mixR_2 he (by rw [hll]; exact hlen) : mixR cs (plL ls) (errsW ls) = _)
      clear hr hrl he hlen hll
      go_enter Try.func22, Try.ntmps22
      go_wp2_with (go_at_call 36; refine HC.out.mono ?_; rintro _ _ ⟨rfl, rfl⟩)
      go_ret2
      rw [HT.out]
      exact retSlE_nil (Below.refl _ _)
  · have hb : (errW cs != 0) = true := by simpa using he
    have HT : Hid (mixR cs (plL ls) (errsW ls) = ([], errW cs)) := (mixR_1 he : mixR cs (plL ls) (errsW ls) = _)
    obtain ⟨ev, hev⟩ : ∃ ev, ev = errW cs := ⟨_, rfl⟩
    rw [← hev] at HC hb HT
    clear he hr hrl hev hll
    go_enter Try.func22, Try.ntmps22
    go_wp2_with (go_at_call 36; refine HC.out.mono ?_; rintro _ _ ⟨rfl, rfl⟩)
    go_ret2
    rw [HT.out]
    exact retSlE_nil (Below.refl _ _)
end Go.Proofs.Ytmfbiohdmhbkoaa

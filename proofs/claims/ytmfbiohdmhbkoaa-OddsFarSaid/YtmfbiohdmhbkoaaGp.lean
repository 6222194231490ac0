/- odds: Pick. -/
import Derived.Test.YtmfbiohdmhbkoaaGn
namespace Go.Proofs.Ytmfbiohdmhbkoaa
open Go.RowKit
attribute [local go_sem] Oper.semAt_some

theorem ent_running1 : Ent 92 := ent_of Try.func92 (by kernel_rfl) rfl
def EncRun (l : List Int) (k : Nat) (_ : World) (xs : Array Value) : Prop := xs = #[.int .i64 (sumL (l.take (k + 1)))]
set_option maxRecDepth 100000 in
set_option maxHeartbeats 2000000 in
theorem running1_iter (A : Option Addr) (c : Nat) (l : List Int) (B : Nat) (hm : l.length ≤ 1000000) (hn : ∀ x ∈ l, 0 ≤ x) (hs : sumL l ≤ 1000000000000000) :
    Iter 92 #[.pointer (some ⟨B, 0, none⟩)] (fun W => Blk W B #[.slice A l.length c] 22 ∧ Sl intCell 1 W W.heap.size A l) (EncRun l) l.length := by
  intro g J Jx W hJs hJxs hJD hY h0
  have HJD := Lib.hid hJD; have HY := Lib.hid hY
  have b0 := (hJD 0 W h0).1.cell 0
  simp at b0
  have H0 := Lib.hid h0; have HN := Lib.hid hn
  clear hJs hJD hY h0 hJxs hn
  rw [← callsIn_wide (n := 2)]
  refine callsIn_of_wp Try.func92 rfl trivial ?_ rfl
  simp only [Try.ntmps92, List.size_toArray, List.length_cons, List.length_nil, Nat.reduceAdd, Nat.reduceSub, Array.replicate_succ, Array.replicate_zero, List.push_toArray, List.append_toArray, List.nil_append, List.cons_append]
  gi_wp2
  gi_loopw [3, 8] (fun v i wr => ∃ k : Nat, k ≤ l.length ∧ i = .int .i64 k ∧ v = .int .i64 (sumL (l.take k)) ∧ Hid (J k wr)) (fun _ i _ => l.length - (intOf i).toNat)
  case atStart => exact ⟨0, by omega, rfl, rfl, H0⟩
  case round =>
    obtain ⟨k, hk, rfl, rfl, hj⟩ := hrel
    by_cases hlt : k < l.length
    · obtain ⟨hB, hsl⟩ := HJD.out k wr hj.out
      obtain ⟨ab, ao, rfl, hblk, hc⟩ := hsl.int_at hlt
      have hS := sumL_take l k hlt
      have y0 := HN.out _ (List.getElem_mem hlt)
      obtain ⟨z0, z1⟩ := sumL_take_le HN.out k
      obtain ⟨z2, z3⟩ := sumL_take_le HN.out (k + 1)
      rw [hS] at z2 z3
      obtain ⟨fn, tmps, assign, body, hy, hR⟩ := HY.out k wr #[.int .i64 (sumL (l.take k) + l[k])] hlt hj.out (by show _ = #[_]; rw [hS])
      have HRR := Lib.hid hR
      have HS := Lib.hid hS
      obtain ⟨s, hs'⟩ : ∃ s, s = sumL (l.take k) := ⟨_, rfl⟩
      obtain ⟨x, hx⟩ : ∃ x, x = l[k] := ⟨_, rfl⟩
      rw [← hs'] at z0 z1 z2 z3 HS hy ⊢
      rw [← hx] at hc HS y0 z2 z3 hy
      clear hs' hx hS hsl hB hR hj
      gi_wp2
      refine HRR.out.mono ?_
      rintro e W3 (⟨rfl, hJ3⟩ | ⟨rfl, hJx3⟩)
      · have HJ3 := Lib.hid hJ3
        clear hJ3
        gi_wp2
        go_roundw
        case rel => exact ⟨k + 1, by omega, by go_num, by rw [HS.out], HJ3⟩
        case measure => simp [intOf]; omega
      · have HJ3 := Lib.hid hJx3
        clear hJx3
        gi_wp2
        refine bodyPost_ret (results_none rfl _ _ _) rfl ?_
        exact ⟨⟨_, rfl⟩, .inr HJ3.out⟩
    · obtain rfl : k = l.length := by omega
      gi_wp2
      go_end0
      exact ⟨⟨_, rfl⟩, .inl hj.out⟩
theorem running_any (A : Option Addr) (c : Nat) (l : List Int) (w : World) : Calls Try.prog 69 #[.slice A l.length c] w fun e w' => e = .returned (.func (.func 92) #[] #[.pointer (some ⟨w.heap.size, 0, none⟩)]) ∧ w' = w.alloc (.cells #[.slice A l.length c] 22) := by
  go_enter Try.func69, Try.ntmps69
  go_wp2
  go_ret
  exact ⟨rfl, rfl⟩
theorem keepsFrom_grown {B g : Nat} {W W' : World} (h : W.grownBy W' (some g)) (hg : g < B) : KeepsFrom B W W' :=
  ⟨h.size, fun k o hk ho _ => (h.block k (Array.getElem?_eq_some_iff.1 ho).1 (fun e => by injection e with e; omega)).trans ho⟩
theorem fold1' (p : Tmp) (x : Value) (T : Array Value) : ((#[p] : Array Tmp).zip #[x]).foldl (fun t (p, v) => t.setIfInBounds p v) T = T.setIfInBounds p x := by simp
theorem round1 (T : Array Value) (p s : Tmp) (x : Value) : roundAct T #[p] [(s, 0)] #[x] = { tmps := (T.setIfInBounds p x).setIfInBounds s x, defers := [] } := by simp [roundAct]
/-- the blocks of Pick: g the list, v its variable, p what is run through -/
structure PickI (w : World) (A : Option Addr) (c : Nat) (l : List Int) (g v p k : Nat) (W : World) : Prop where
  low : Below w.heap.size w W
  own : Own W g l.length (runL l k)
  var : Blk W v #[.slice (some ⟨g, 0, none⟩) k l.length] 22
  src : Blk W p #[.slice A l.length c] 22
theorem PickI.stab {w : World} {A : Option Addr} {c : Nat} {l : List Int} {g v p B : Nat} (hB : w.heap.size ≤ B) (k : Nat) : Stab B (PickI w A c l g v p k) := fun W W' row h hg hr =>
  ⟨Stab.low hB w (Nat.le_refl _) W W' row h.low hg hr, Stab.owns _ _ _ _ _ W W' row h.own hg hr, Stab.blk _ _ _ _ W W' row h.var hg hr, Stab.blk _ _ _ _ W W' row h.src hg hr⟩
theorem runL_rising {l : List Int} (h : ∀ x ∈ l, 0 ≤ x) (k : Nat) : Rising (runL l k) := fun i j hij hj => by
  have hj' : j < k := by rw [runL_len] at hj; exact hj
  rw [runL_get l (show i < k by omega), runL_get l hj']
  exact take_mono h (by omega)
theorem pickR_bad {l : List Int} {v : Int} (h : errW l ≠ 0) : pickR l v = (0, errW l) := by unfold pickR; rw [if_pos h]
theorem pickR_range {l : List Int} {v : Int} (h : errW l = 0) (hv : v < 0 ∨ sumL l ≤ v) : pickR l v = (0, 3) := by unfold pickR; rw [if_neg (by simpa using h), if_pos hv]
theorem pickR_ok {l : List Int} {v : Int} (h : errW l = 0) (hv : ¬ (v < 0 ∨ sumL l ≤ v)) : pickR l v = ((pickK l v : Int), 0) := by unfold pickR; rw [if_neg (by simpa using h), if_neg hv]
theorem pick_end {l : List Int} (hn : ∀ x ∈ l, 0 ≤ x) {v : Int} (h0 : 0 ≤ v) (h1 : v < sumL l) {k : Nat} (hk : k < l.length) (lo : ∀ j, j < k → (h : j < (runL l l.length).length) → (runL l l.length)[j] ≤ v)
    (hi : v < (runL l l.length)[k]'(by rw [runL_len]; exact hk)) : k = pickK l v := by
  refine pickK_unique hn h0 h1 ?_ (by rw [runL_get l hk] at hi; exact hi)
  cases k with
  | zero => simpa [sumL] using h0
  | succ k =>
    have := lo k (by omega) (by rw [runL_len]; omega)
    rw [runL_get l (by omega)] at this
    exact this
theorem pick_last {l : List Int} {v : Int} (h1 : v < sumL l) (hl : 0 < l.length) (lo : ∀ j, j < l.length → (h : j < (runL l l.length).length) → (runL l l.length)[j] ≤ v) : False := by
  have := lo (l.length - 1) (by omega) (by rw [runL_len]; omega)
  rw [runL_get l (by omega), show l.length - 1 + 1 = l.length by omega, List.take_length] at this
  omega
set_option maxRecDepth 100000 in
set_option maxHeartbeats 8000000 in
theorem pick_any (A : Option Addr) (c : Nat) (l : List Int) (v : Int) (w : World) (hm : l.length ≤ 1000000000) (hr : Sl intCell 1 w w.heap.size A l) :
    Calls Try.prog 26 #[.slice A l.length c, .int .i64 v] w (Ret2 (pickR l v).1 (pickR l v).2 w) := by
  have HC := Lib.hid (check_any A c l w hm hr)
  by_cases he : errW l = 0
  · have ok := errW_zero.1 he
    have HE := Lib.hid he
    have HS := Lib.hid (sum_any A c l w (by have := ok.len; omega) ok.nn (by have := ok.le; omega) hr)
    by_cases hv : v < 0 ∨ sumL l ≤ v
    · have HT := Lib.hid (pickR_range he hv)
      have hbd := ok.le
      obtain ⟨s, hs⟩ : ∃ s, s = sumL l := ⟨_, rfl⟩
      rw [← hs] at HS hv hbd
      clear hr he ok hs
      by_cases h0 : v < 0
      · go_enter Try.func26, Try.ntmps26
        go_wp2_with (first | (go_at_call 31; refine HC.out.mono ?_; rintro _ _ ⟨rfl, rfl⟩; rw [HE.out]) | (go_at_call 57; refine HS.out.mono ?_; rintro _ _ ⟨rfl, rfl⟩))
        go_ret2
        rw [HT.out]
        exact ⟨rfl, Below.refl _ _⟩
      · have d0 : decide (v < 0) = false := by simpa using h0
        have d1 : decide (s ≤ v) = true := by simp; omega
        clear h0 hv
        go_enter Try.func26, Try.ntmps26
        go_wp2_with (first | (go_at_call 31; refine HC.out.mono ?_; rintro _ _ ⟨rfl, rfl⟩; rw [HE.out]) | (go_at_call 57; refine HS.out.mono ?_; rintro _ _ ⟨rfl, rfl⟩))
        go_ret2
        rw [HT.out]
        exact ⟨rfl, Below.refl _ _⟩
    · have HT := Lib.hid (pickR_ok he hv)
      have d0 : decide (v < 0) = false := by simp; omega
      have d1 : decide (sumL l ≤ v) = false := by simp; omega
      have v0 : 0 ≤ v := by omega
      have v1 : v < sumL l := by omega
      have hlen := ok.len
      have HN := Lib.hid ok.nn
      have HLE := Lib.hid ok.le
      have HR := Lib.hid hr
      obtain ⟨i0, hi, iz0, iz1, iz2⟩ := info_parts infoInt
      have HSE := Lib.hid (v1)
      obtain ⟨s, hs⟩ : ∃ s, s = sumL l := ⟨_, rfl⟩
      rw [← hs] at HS d1
      clear hr he ok hv hs v1
      refine calls_marks Try.func26 rfl ?_
      simp only [Try.ntmps26, List.size_toArray, List.length_cons, List.length_nil, Nat.reduceAdd, Nat.reduceSub, Array.replicate_succ, Array.replicate_zero, List.push_toArray, List.append_toArray, List.nil_append, List.cons_append]
      go_wp2_with (first | (go_at_call 31; refine HC.out.mono ?_; rintro _ _ ⟨rfl, rfl⟩; rw [HE.out]) | (go_at_call 57; refine HS.out.mono ?_; rintro _ _ ⟨rfl, rfl⟩) |
        (at_make; refine wpList_make_own _ rfl _ _ 22 rfl 0 3 i0 (.int .i64 0) 1 uInts hi iz0 iz1 .i64 .i64 _ l.length rfl rfl rfl (by rw [iz2]; omega) (by unfold maxLen; omega) (by omega) ?_; intro w2 how hgr; have hb2 : Below w.heap.size w w2 := (Below.refl _ _).grown hgr (Nat.le_refl _) (fun g hg => nomatch hg); have hO2 : Own w2 w.heap.size l.length (runL l 0) := how; have HO2 := Lib.hid hO2; have HB2 := Lib.hid hb2; clear how hgr hO2 hb2) |
        (go_at_call 69; refine (running_any A c l _).mono ?_; rintro _ _ ⟨rfl, rfl⟩))
      have hz2 := HB2.out.size
      have hg2 := HO2.out.lt_
      refine wp_world (fun W => PickI w A c l w.heap.size w2.heap.size (w2.heap.size + 1) 0 W ∧ W.heap.size = w2.heap.size + 1 + 1) ?_ ?_
      · exact ⟨⟨((HB2.out.alloc hz2 _).alloc (by simp; omega) _), (HO2.out.below ((Below.refl _ _).alloc (Nat.le_refl _) _)).below ((Below.refl _ _).alloc (Nat.le_refl _) _), (Blk.new _ _ _).alloc _, Blk.at_ (by simp)⟩, by simp⟩
      obtain ⟨g, hg⟩ : ∃ g, g = w.heap.size := ⟨_, rfl⟩
      obtain ⟨vb, hvb⟩ : ∃ b, b = w2.heap.size := ⟨_, rfl⟩
      rw [← hvb]
      have hgv : g < vb := by omega
      rintro w0 ⟨hI0, hz0⟩
      have hlow := hI0.low.size
      have HG := Lib.hid hg
      have hI0' : PickI w A c l g vb (vb + 1) 0 w0 := by rw [hg]; exact hI0
      clear HO2 HB2 hz2 hg2 hg hvb hI0
      refine wp_rangeS (lb := #[.pointer (some ⟨vb + 1, 0, none⟩)]) rfl ent_running1 (running1_iter A c l (vb + 1) (by omega) HN.out HLE.out) [(8, 0)]
        (fun k W => PickI w A c l g vb (vb + 1) k W) (fun _ _ => False)
        (fun k => PickI.stab hlow k) (fun c => Stab.pure _) ?hE ?hD hI0' ?hps ?hassign ?hbody ?hdone (fun D c W h => h.elim)
      case hE => exact fun k xs => Stab.pure _
      case hD => exact fun k W hi => ⟨hi.src, (HR.out.below hi.low).more hi.low.size⟩
      case hps => rintro k W xs rfl; rfl
      case hassign =>
        rintro q k xs W K rfl hK
        rw [round1] at hK
        rw [fold1']
        simp only [List.setIfInBounds_toArray, List.set_cons_succ, List.set_cons_zero] at hK ⊢
        gi_wp2
        exact hK
      case hbody =>
        rintro q k xs W hk hpi rfl hl1 hl2
        rw [round1]
        simp only [List.setIfInBounds_toArray, List.set_cons_succ, List.set_cons_zero]
        have o0 := hpi.var.cell 0; have f0 := hpi.var.free 0
        simp at o0
        have hvl := hpi.var.lt; have hgl := hpi.own.lt_
        have HPI := Lib.hid hpi
        have HRS := Lib.hid (runL_succ l k)
        have hown := hpi.own
        have HOK : Hid (W.ownsRow 0 3 1 (.slice (some ⟨g, 0, none⟩) k l.length) k ((runL l k).map (Value.int .i64))) := (by have h := hpi.own; unfold Own at h; rw [runL_len] at h; exact h : W.ownsRow 0 3 1 _ k _)
        obtain ⟨x, hx⟩ : ∃ x, x = sumL (l.take (k + 1)) := ⟨_, rfl⟩
        rw [← hx] at HRS ⊢
        have hwl : w.heap.size ≤ W.heap.size := hpi.low.size
        have hpl := hpi.src.lt
        have HVB := Lib.hid hpi.var
        have hgw : w.heap.size ≤ g := by have := HG.out; omega
        have N1 : Hid ((some vb : Option Nat) ≠ some g) := (fun e => by injection e with e; omega : (some vb : Option Nat) ≠ some g)
        have N2 : Hid ((some (vb + 1) : Option Nat) ≠ some g) := (fun e => by injection e with e; omega : (some (vb + 1) : Option Nat) ≠ some g)
        clear hx hpi hown
        gi_wp2_with (gi_at_builtin; refine wpListIn_append_spare _ rfl _ _ 22 rfl 0 3 i0 1 uInts hi iz1 g k l.length _ rfl (HOK.out.alloc _) ⟨W.heap.size, 0, none⟩ 1 1 [.int .i64 x] rfl rfl (cell_one_new _ _ _) (by simp [Value.oneCell']) (by omega) ?_; intro w5 hown5 hgr5; have gV := Blk.grown (HVB.out.alloc (.cells #[.int .i64 x] 3)) hgr5 N1.out; have gP := Blk.grown (HPI.out.src.alloc (.cells #[.int .i64 x] 3)) hgr5 N2.out; have o5 := gV.cell 0; have f5 := gV.free 0; simp at o5)
        have hal : Below W.heap.size W (W.alloc (.cells #[.int .i64 x] 3)) := (Below.refl _ _).alloc (Nat.le_refl _) _
        refine ⟨((keepsFrom_below hal).trans (keepsFrom_grown hgr5 (by omega))).trans ((KeepsOthers.setCell _ _ _).from _), ⟨?_, ?_, gV.set 0 _, gP.far _ (by simp) _⟩⟩
        · exact ((HPI.out.low.trans (hal.mono hwl)).grown hgr5 (by simp; omega) (fun k e => by cases e; omega)).setCell (by show w.heap.size ≤ vb; omega) _
        · rw [HRS.out]
          exact (Own.snoc (by rw [runL_len]) hown5).far _ (by show g ≠ vb; omega) _
      case hdone =>
        rintro D W hpi hD hK
        have o0 := hpi.var.cell 0
        simp at o0
        have HB : Hid (Calls Try.prog 70 #[.slice (some ⟨g, 0, none⟩) l.length l.length, .int .i64 v] W (RetFound (runL l l.length) v W)) := (by
          have h := bsearch_any (some ⟨g, 0, none⟩) l.length (runL l l.length) v W (by rw [runL_len]; omega) hpi.own.sl (runL_rising HN.out l.length)
          rw [runL_len] at h; exact h : Calls Try.prog 70 _ W _)
        have HP := Lib.hid hpi; have HK := Lib.hid hK
        have HRL := Lib.hid (runL_len l l.length)
        have hpos : 0 < l.length := by
          rcases Nat.eq_zero_or_pos l.length with h | h
          · exfalso; have := HSE.out; rw [List.eq_nil_of_length_eq_zero h] at this; simp [sumL] at this; omega
          · exact h
        clear hpi hK
        go_wp2_with (go_at_call 70; refine HB.out.mono ?_; rintro _ _ ⟨⟨i, f, hF, rfl⟩, rfl⟩; refine Hid.out ?_)
        have HF := Lib.hid hF
        have hile : i ≤ l.length := by have := hF.le; rw [runL_len] at this; exact this
        clear hF HB
        have FIN : Hid (∀ k : Nat, k < l.length → (∀ j, j < k → (h : j < (runL l l.length).length) → (runL l l.length)[j] ≤ v) → (∀ h : k < (runL l l.length).length, v < (runL l l.length)[k]) → k = pickK l v) := (fun k hk h1 h2 => pick_end HN.out v0 HSE.out hk h1 (h2 (by rw [runL_len]; exact hk)) : ∀ k : Nat, _)
        refine Lib.hid ?_
        go_wp2
        go_loop [9] (fun vk => ∃ k : Nat, vk = .int .i64 k ∧ k ≤ l.length ∧ Hid (f = false → k = i) ∧ Hid (∀ j, j < k → (h : j < (runL l l.length).length) → (runL l l.length)[j] ≤ v)) (fun vk => l.length - (intOf vk).toNat)
        case atStart => exact ⟨i, rfl, hile, fun _ => rfl, fun j hj h => Int.le_of_lt (HF.out.lo j hj h)⟩
        case round =>
          obtain ⟨k, rfl, hk, HI, HJ⟩ := hrel
          cases f with
          | false =>
            have hki : k = i := HI.out rfl
            have hkl : k < l.length := by
              rcases Nat.lt_or_ge k l.length with h | h
              · exact h
              · exact (pick_last HSE.out hpos fun j hj hh => HJ.out j (by omega) hh).elim
            have HPK := Lib.hid (FIN.out k hkl HJ.out fun h => by
              have h1 := HF.out.hi k (by omega) h
              have h2 := HF.out.ne rfl (by rw [← hki]; exact h)
              simp only [← hki] at h2
              omega)
            clear hki
            go_wp2
            refine marks_ret1 (v := .tuple #[.int .i64 k, .int .i64 0]) rfl HK.out (by simp [results, Try.results26, go_sem]) ?_
            rw [HT.out, ← HPK.out]
            exact ⟨rfl, below_putObj HP.out.low (by omega) HK.out _⟩
          | true =>
            have hkl : k < l.length := by
              rcases Nat.lt_or_ge k l.length with h | h
              · exact h
              · exact (pick_last HSE.out hpos fun j hj hh => HJ.out j (by omega) hh).elim
            have hkl2 : k < (runL l l.length).length := by rw [runL_len]; exact hkl
            have ck := HP.out.own.cells_ hkl2
            have hk0 : (0 : Int) ≤ (k : Int) := by omega
            have hk1 : (k : Int) < (l.length : Int) := by omega
            by_cases hx : (runL l l.length)[k] ≤ v
            · have HNX : Hid (∀ j, j < k + 1 → (h : j < (runL l l.length).length) → (runL l l.length)[j] ≤ v) := (fun j hj h => by
                rcases Nat.lt_succ_iff_lt_or_eq.1 hj with h1 | h1
                · exact HJ.out j h1 h
                · subst h1; exact hx : ∀ j, j < k + 1 → _)
              obtain ⟨x, hxe⟩ : ∃ x, x = (runL l l.length)[k] := ⟨_, rfl⟩
              rw [← hxe] at ck hx
              have dx : decide (x ≤ v) = true := by simpa using hx
              clear hxe hx
              go_wp2
              go_round
              case rel => exact ⟨k + 1, by go_num, by omega, fun h => (nomatch h), HNX⟩
              case measure => simp [intOf] <;> omega
            · have HPK := Lib.hid (FIN.out k hkl HJ.out fun h => Int.not_le.1 hx)
              obtain ⟨x, hxe⟩ : ∃ x, x = (runL l l.length)[k] := ⟨_, rfl⟩
              rw [← hxe] at ck hx
              have dx : decide (x ≤ v) = false := by simpa using hx
              clear hxe hx
              go_wp2
              refine marks_ret1 (v := .tuple #[.int .i64 k, .int .i64 0]) rfl HK.out (by simp [results, Try.results26, go_sem]) ?_
              rw [HT.out, ← HPK.out]
              exact ⟨rfl, below_putObj HP.out.low (by omega) HK.out _⟩
  · have hb : (errW l != 0) = true := by simpa using he
    have HT := Lib.hid (pickR_bad (v := v) he)
    obtain ⟨ev, hev⟩ : ∃ ev, ev = errW l := ⟨_, rfl⟩
    rw [← hev] at HC hb HT
    clear he hr hev
    go_enter Try.func26, Try.ntmps26
    go_wp2_with (go_at_call 31; refine HC.out.mono ?_; rintro _ _ ⟨rfl, rfl⟩)
    go_ret2
    rw [HT.out]
    exact ⟨rfl, Below.refl _ _⟩
end Go.Proofs.Ytmfbiohdmhbkoaa

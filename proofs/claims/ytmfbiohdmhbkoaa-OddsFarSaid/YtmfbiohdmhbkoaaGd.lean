/- odds: lowest, check, Total, Lowest, Equal. -/
import Derived.Test.YtmfbiohdmhbkoaaGc
namespace Go.Proofs.Ytmfbiohdmhbkoaa
open Go.RowKit

theorem lowL_get {l : List Int} {k : Nat} (hk : k < l.length) : (lowL l)[k]'(by rw [lowL_len]; exact hk) = l[k] / gL l := by simp [lowL]
/-- a list behind k rounds: the first ones done, the others 0 -/
def doneL (l : List Int) (k : Nat) : List Int := l.take k ++ List.replicate (l.length - k) 0
theorem doneL_zero (l : List Int) : doneL l 0 = List.replicate l.length 0 := by simp [doneL]
theorem doneL_all (l : List Int) : doneL l l.length = l := by simp [doneL]
theorem doneL_len (l : List Int) {k : Nat} (h : k ≤ l.length) : (doneL l k).length = l.length := by simp [doneL]; omega
theorem doneL_succ (l : List Int) {k : Nat} (h : k < l.length) : (doneL l k).set k l[k] = doneL l (k + 1) := by
  unfold doneL
  rw [List.set_append_right _ _ (by simp; omega), take_snoc_int l k h, List.append_assoc]
  congr 1
  obtain ⟨d, hd⟩ : ∃ d, l.length - k = d + 1 := ⟨l.length - k - 1, by omega⟩
  rw [hd, show k - (l.take k).length = 0 by simp; omega, show l.length - (k + 1) = d by omega, List.replicate_succ]
  rfl
/-- a list in a block of its own, that is new, is returned -/
def RetLN (l : List Int) (w : World) (e : Ending) (w' : World) : Prop := ∃ b, e = .returned (.slice (some ⟨b, 0, none⟩) l.length l.length) ∧ Arr w' b l ∧ w.heap.size ≤ b ∧ Below w.heap.size w w'
theorem RetLN.of_arr {l : List Int} {w w' : World} {b n : Nat} (h : Arr w' b l) (hn : n = l.length) (h0 : w.heap.size ≤ b) (hb : Below w.heap.size w w') : RetLN l w (.returned (.slice (some ⟨b, 0, none⟩) n n)) w' := ⟨b, by rw [hn], h, h0, hb⟩
set_option maxRecDepth 100000 in
set_option maxHeartbeats 2000000 in
theorem lowest_new (A : Option Addr) (c : Nat) (l : List Int) (w : World) (ok : OkW l) (hr : Sl intCell 1 w w.heap.size A l) :
    Calls Try.prog 61 #[.slice A l.length c] w (RetLN (lowL l) w) := by
  obtain ⟨i0, hi, iz0, iz1, iz2⟩ := info_parts infoInt
  have HG := Lib.hid (gcd_any A c l w (by have := ok.len; omega) (fun x hx => by obtain ⟨k, hk, rfl⟩ := List.mem_iff_getElem.1 hx; exact ok.at_ hk) hr)
  have HR := Lib.hid hr; have OK := Lib.hid ok
  have hlen := ok.len
  have g0 := ok.gpos
  have g1 := gL_le ok
  clear hr ok
  go_enter Try.func61, Try.ntmps61
  go_wp2_with (first | (go_at_call 62; refine HG.out.mono ?_; rintro _ w1 ⟨rfl, hb1⟩) | (at_make; refine wpList_make_arr _ rfl _ _ rfl i0 uInts hi iz0 iz1 iz2 .i64 .i64 _ _ l.length rfl rfl rfl rfl (by omega) ?_; intro w2 ha2 hb2))
  have hw2 := bl2 hb1 hb2
  have hz1 := hb1.size
  have hz2 := hb2.size
  obtain ⟨b, hb⟩ : ∃ b, b = w1.heap.size := ⟨_, rfl⟩
  rw [← hb] at ha2 ⊢
  have HD0 := Lib.hid (doneL_zero (lowL l))
  have ha0 : Hid (Arr w2 b (doneL (lowL l) 0)) := (by rw [HD0.out, lowL_len]; exact ha2 : Arr w2 b (doneL (lowL l) 0))
  have hbw : w.heap.size ≤ b := by omega
  clear ha2 hb1 hb2 hb hz1 hz2 HG
  refine Lib.hid ?_
  go_wp2
  go_loopw [14] (fun i wr => ∃ k : Nat, k ≤ l.length ∧ i = .int .i64 k ∧ Hid (Arr wr b (doneL (lowL l) k)) ∧ Below w.heap.size w wr) (fun i _ => l.length - (intOf i).toNat)
  case atStart => exact ⟨0, by omega, rfl, ha0, hw2⟩
  case round =>
    obtain ⟨k, hk, rfl, HA, hbr⟩ := hrel
    by_cases hlt : k < l.length
    · obtain ⟨b', o, rfl, hbb, hc⟩ := (HR.out.below hbr).int_at hlt
      have y := OK.out.at_ hlt
      have HL := Lib.hid (lowL_get hlt)
      have HS := Lib.hid (doneL_succ (lowL l) (k := k) (by rw [lowL_len]; exact hlt))
      have ca := HA.out.at_ (j := k) (by rw [doneL_len _ (by rw [lowL_len]; omega), lowL_len]; exact hlt)
      have fa := Blk.free HA.out k
      obtain ⟨y0, y1⟩ := y
      obtain ⟨u, hu⟩ : ∃ u, u = (doneL (lowL l) k)[k]'(by rw [doneL_len _ (by rw [lowL_len]; omega), lowL_len]; exact hlt) := ⟨_, rfl⟩
      rw [← hu] at ca
      obtain ⟨g, hg⟩ : ∃ g, g = gL l := ⟨_, rfl⟩
      obtain ⟨x, hx⟩ : ∃ x, x = l[k] := ⟨_, rfl⟩
      rw [← hx] at hc y0 y1 HL
      rw [← hg] at g0 g1 HL ⊢
      have hk0 : (0 : Int) ≤ (k : Int) := by omega
      have hk1 : (k : Int) < (l.length : Int) := by omega
      clear hu hx hg
      go_wp2
      go_roundw
      case rel => exact ⟨k + 1, by omega, by go_num, (by rw [← HS.out, HL.out]; exact HA.out.put k _ : Arr _ b (doneL (lowL l) (k + 1))), hbr.setCell (p := ⟨b, k, none⟩) hbw _⟩
      case measure => simp [intOf]; omega
    · obtain rfl : k = l.length := by omega
      have e := doneL_all (lowL l)
      rw [lowL_len] at e
      have HE := Lib.hid e
      clear e
      go_wp2
      go_ret
      exact RetLN.of_arr (by have := HA.out; rw [HE.out] at this; exact this) (by rw [lowL_len]) hbw hbr
theorem lowest_any (A : Option Addr) (c : Nat) (l : List Int) (w : World) (ok : OkW l) (hr : Sl intCell 1 w w.heap.size A l) :
    Calls Try.prog 61 #[.slice A l.length c] w (RetL (lowL l) w) :=
  (lowest_new A c l w ok hr).mono fun _ _ ⟨b, h, ha, _, hb⟩ => by rw [h]; exact RetL.of_arr ha rfl hb
/-- the first error of some lists -/
def errsW : List LL → Int
  | [] => 0
  | x :: l => if errW x.l ≠ 0 then errW x.l else errsW l
theorem errsW_at {ls : List LL} {k : Nat} (hk : k < ls.length) (hb : ∀ x ∈ ls.take k, errW x.l = 0) (h : errW ls[k].l ≠ 0) : errsW ls = errW ls[k].l := by
  induction ls generalizing k with
  | nil => cases hk
  | cons x l ih =>
    cases k with
    | zero =>
      have h' : errW x.l ≠ 0 := h
      simp only [errsW]; rw [if_pos h']; rfl
    | succ k =>
      simp only [errsW]
      rw [if_neg (by simpa using hb x (by simp))]
      exact ih (by simpa using hk) (fun y hy => hb y (by simp [hy])) h
theorem errsW_zero : ∀ {ls : List LL}, (∀ x ∈ ls, errW x.l = 0) → errsW ls = 0
  | [], _ => rfl
  | x :: l, h => by simp only [errsW]; rw [if_neg (by simpa using h x (by simp))]; exact errsW_zero fun y hy => h y (by simp [hy])
theorem ne_errno {x : Int} {b : Bool} (h : (x != 0) = b) : (x != 0) = b := h
set_option maxRecDepth 100000 in
set_option maxHeartbeats 2000000 in
theorem checks_any (A : Option Addr) (c : Nat) (ls : List LL) (w : World) (hm : ls.length ≤ 1000000) (hml : ∀ x ∈ ls, x.l.length ≤ 1000000000) (hr : Lists w w.heap.size A ls) :
    Calls Try.prog 58 #[.slice A ls.length c] w fun e w' => e = .returned (.int .i64 (errsW ls)) ∧ w = w' := by
  have HR := Lib.hid hr; have HM := Lib.hid hml
  clear hr hml
  go_enter Try.func58, Try.ntmps58
  go_wp2
  go_loop [8] (fun i => ∃ k : Nat, k ≤ ls.length ∧ i = .int .i64 k ∧ Hid (∀ x ∈ ls.take k, errW x.l = 0)) (fun i => ls.length - (intOf i).toNat)
  case atStart => exact ⟨0, by omega, rfl, fun x hx => by simp at hx⟩
  case round =>
    obtain ⟨k, hk, rfl, hn⟩ := hrel
    by_cases hlt : k < ls.length
    · obtain ⟨b, o, rfl, hb, hc, hs⟩ := HR.out.at_ hlt
      have HC := Lib.hid (check_any ls[k].a ls[k].c ls[k].l w (HM.out _ (List.getElem_mem hlt)) hs)
      clear hs
      by_cases he : errW ls[k].l = 0
      · have HE := Lib.hid he
        have HT := Lib.hid (List.take_succ_eq_append_getElem hlt)
        obtain ⟨x, hx⟩ : ∃ x, x = ls[k] := ⟨_, rfl⟩
        rw [← hx] at hc HC HE HT
        clear he hx
        go_wp2_with fail
        refine HC.out.mono ?_
        rintro _ _ ⟨rfl, rfl⟩
        rw [HE.out]
        go_wp2
        go_round
        case rel => exact ⟨k + 1, by omega, by go_num, fun z hz => by
          rw [HT.out] at hz
          rcases List.mem_append.1 hz with h | h
          · exact hn.out z h
          · simp at h; subst h; exact HE.out⟩
        case measure => simp [intOf]; omega
      · have HE := Lib.hid (errsW_at hlt hn.out he)
        have hb' : (errW ls[k].l != 0) = true := by simpa using he
        obtain ⟨x, hx⟩ : ∃ x, x = ls[k] := ⟨_, rfl⟩
        rw [← hx] at hc HC HE hb'
        clear he hx
        obtain ⟨ev, hev⟩ : ∃ ev, ev = errW x.l := ⟨_, rfl⟩
        rw [← hev] at HC HE hb'
        clear hev
        go_wp2_with fail
        refine HC.out.mono ?_
        rintro _ _ ⟨rfl, rfl⟩
        go_wp2
        go_ret
        exact ⟨ret_int HE.out.symm, rfl⟩
    · obtain rfl : k = ls.length := by omega
      have HE := Lib.hid (errsW_zero (ls := ls) (fun x hx => hn.out x (by rw [List.take_length]; exact hx)))
      go_wp2
      go_ret
      exact ⟨ret_int HE.out.symm, rfl⟩
end Go.Proofs.Ytmfbiohdmhbkoaa

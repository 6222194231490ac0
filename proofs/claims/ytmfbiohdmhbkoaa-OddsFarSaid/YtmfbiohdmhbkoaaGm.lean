/- odds: Fair. -/
import Derived.Test.YtmfbiohdmhbkoaaGl
import Derived.Test.YtmfbiohdmhbkoaaGo
namespace Go.Proofs.Ytmfbiohdmhbkoaa
open Go.RowKit

theorem ent_fair1 : Ent 66 := ent_of Try.func66 (by kernel_rfl) rfl
def badT (s n : Int) : Bool := decide (n < 0) || decide (s ≤ n)
theorem fair1_any (n s : Int) (sb : Nat) (W : World) (g : Blk W sb #[.int .i64 s] 3) : Calls Try.prog 66 (#[.int .i64 n] ++ #[.pointer (some ⟨sb, 0, none⟩)]) W fun e W' => e = .returned (.bool (badT s n)) ∧ Below W.heap.size W W' := by
  have c0 := g.cell 0
  simp at c0
  clear g
  by_cases h : n < 0
  · have d : decide (n < 0) = true := by simpa using h
    have HT : Hid (badT s n = true) := (by simp [badT, h] : badT s n = true)
    clear h
    go_enter Try.func66, Try.ntmps66
    go_wp2
    go_ret
    exact ⟨ret_bool HT.out.symm, Below.refl _ _⟩
  · have d : decide (n < 0) = false := by simpa using h
    have HT : Hid (badT s n = decide (s ≤ n)) := (by simp [badT, d] : badT s n = _)
    clear h
    go_enter Try.func66, Try.ntmps66
    go_wp2
    go_ret
    exact ⟨ret_bool HT.out.symm, Below.refl _ _⟩
/-- three integers are returned -/
def Ret3 (x : Int × Int × Int) (w : World) (e : Ending) (w' : World) : Prop := e = .returned (.tuple #[.int .i64 x.1, .int .i64 x.2.1, .int .i64 x.2.2]) ∧ Below w.heap.size w w'
theorem fairR_any (s b : Int) (l : List Int) : fairR s b l = if s < 2 ∨ 1000000 < s ∨ b < 1 ∨ 1000000 < b then (0, 0, 3) else if 10000 < l.length then (0, 0, 5) else if l.any (badT s) then (0, 0, 2) else fairGo s b l 1 0 0 := rfl
set_option maxRecDepth 100000 in
set_option maxHeartbeats 8000000 in
theorem fair_any (A : Option Addr) (c : Nat) (l : List Int) (s m : Int) (w : World) (hm : l.length ≤ 1000000) (hr : Sl intCell 1 w w.heap.size A l) :
    Calls Try.prog 23 #[.int .i64 s, .int .i64 m, .slice A l.length c] w (Ret3 (fairR s m l) w) := by
  by_cases hs : s < 2 ∨ 1000000 < s ∨ m < 1 ∨ 1000000 < m
  · have HT : Hid (fairR s m l = (0, 0, 3)) := (by rw [fairR_any, if_pos hs] : fairR s m l = _)
    obtain ⟨a, ha⟩ : ∃ a, decide (s < 2) = a := ⟨_, rfl⟩
    obtain ⟨b, hb⟩ : ∃ b, decide (1000000 < s) = b := ⟨_, rfl⟩
    obtain ⟨d, hd⟩ : ∃ d, decide (m < 1) = d := ⟨_, rfl⟩
    obtain ⟨e, he⟩ : ∃ e, decide (1000000 < m) = e := ⟨_, rfl⟩
    have hor : (a || b || d || e) = true := by
      rw [← ha, ← hb, ← hd, ← he]
      simp only [Bool.or_eq_true, decide_eq_true_eq]
      rcases hs with h | h | h | h <;> simp [h]
    clear hr hs
    cases a <;> cases b <;> cases d <;> cases e <;> first | (exfalso; revert hor; simp; done) | (
      clear hor
      go_enter Try.func23, Try.ntmps23
      go_wp2
      refine bodyPost_ret (v := .tuple #[.int .i64 0, .int .i64 0, .int .i64 3]) (by simp [results, Try.results23, go_sem]) rfl ⟨by rw [HT.out], by (repeat (first | exact Below.refl _ _ | assumption | (refine Below.alloc ?_ (by first | omega | (simp; omega) | (simp; done)) _) | (refine Below.setCell ?_ (by first | omega | (simp; omega) | (simp; done)) _) | (refine Below.drew ?_) | (refine belowN ?_ _) | (refine Below.trans ?_ (Below.mono ‹Below _ _ _› (by first | omega | (simp; omega) | (simp; done))))))⟩)
  · have a1 : decide (s < 2) = false := by simp; omega
    have a2 : decide (1000000 < s) = false := by simp; omega
    have a3 : decide (m < 1) = false := by simp; omega
    have a4 : decide (1000000 < m) = false := by simp; omega
    have s1 : 2 ≤ s := by omega
    have s2 : s ≤ 1000000 := by omega
    have m1 : 1 ≤ m := by omega
    have m2 : m ≤ 1000000 := by omega
    by_cases hl : 10000 < l.length
    · have HT : Hid (fairR s m l = (0, 0, 5)) := (by rw [fairR_any, if_neg hs, if_pos hl] : fairR s m l = _)
      clear hr hs
      go_enter Try.func23, Try.ntmps23
      go_wp2
      refine bodyPost_ret (v := .tuple #[.int .i64 0, .int .i64 0, .int .i64 5]) (by simp [results, Try.results23, go_sem]) rfl ⟨by rw [HT.out], by (repeat (first | exact Below.refl _ _ | assumption | (refine Below.alloc ?_ (by first | omega | (simp; omega) | (simp; done)) _) | (refine Below.setCell ?_ (by first | omega | (simp; omega) | (simp; done)) _) | (refine Below.drew ?_) | (refine belowN ?_ _) | (refine Below.trans ?_ (Below.mono ‹Below _ _ _› (by first | omega | (simp; omega) | (simp; done))))))⟩
    · have d5 : decide (10000 < l.length) = false := by simpa using hl
      have d6 : decide ((10000 : Int) < (l.length : Int)) = false := by simp; omega
      have HA := Lib.hid (fun W sb (hW : Below w.heap.size w W) (g : Blk W sb #[.int .i64 s] 3) => intsany_any 66 #[.pointer (some ⟨sb, 0, none⟩)] A c l (badT s) W ent_fair1 (by omega) ((hr.below hW).more hW.size) (fun t ht W' hb => fair1_any t s sb W' (g.below hb g.lt)))
      have HR := Lib.hid hr
      by_cases hany : l.any (badT s) = true
      · have HT : Hid (fairR s m l = (0, 0, 2)) := (by rw [fairR_any, if_neg hs, if_neg hl, if_pos hany] : fairR s m l = _)
        rw [hany] at HA
        clear hr hs hl hany
        go_enter Try.func23, Try.ntmps23
        go_wp2_with (go_at_call 65; refine (HA.out _ _ (by (repeat (first | exact Below.refl _ _ | assumption | (refine Below.alloc ?_ (by first | omega | (simp; omega) | (simp; done)) _) | (refine Below.setCell ?_ (by first | omega | (simp; omega) | (simp; done)) _) | (refine Below.drew ?_) | (refine belowN ?_ _) | (refine Below.trans ?_ (Below.mono ‹Below _ _ _› (by first | omega | (simp; omega) | (simp; done))))))) (Blk.at_ (by simp))).mono ?_; rintro _ w1 ⟨rfl, hb1⟩)
        refine bodyPost_ret (v := .tuple #[.int .i64 0, .int .i64 0, .int .i64 2]) (by simp [results, Try.results23, go_sem]) rfl ⟨by rw [HT.out], bl3 (Below.refl _ _) hb1⟩
      · have HT : Hid (fairR s m l = fairGo s m l 1 0 0) := (by rw [fairR_any, if_neg hs, if_neg hl, if_neg hany] : fairR s m l = _)
        have hok : ∀ x ∈ l, 0 ≤ x ∧ x < s := fun x hx => by
          have h := hany
          rw [Bool.not_eq_true, List.any_eq_false] at h
          have := h x hx
          simp [badT] at this
          omega
        have HOK := Lib.hid hok
        simp only [Bool.not_eq_true] at hany
        rw [hany] at HA
        clear hr hs hl hany hok
        go_enter Try.func23, Try.ntmps23
        go_wp2_with (go_at_call 65; refine (HA.out _ _ (by (repeat (first | exact Below.refl _ _ | assumption | (refine Below.alloc ?_ (by first | omega | (simp; omega) | (simp; done)) _) | (refine Below.setCell ?_ (by first | omega | (simp; omega) | (simp; done)) _) | (refine Below.drew ?_) | (refine belowN ?_ _) | (refine Below.trans ?_ (Below.mono ‹Below _ _ _› (by first | omega | (simp; omega) | (simp; done))))))) (Blk.at_ (by simp))).mono ?_; rintro _ w1 ⟨rfl, hb1⟩)
        obtain ⟨tb, htb⟩ : ∃ tb, tb = w1.heap.size := ⟨_, rfl⟩
        rw [← htb]
        have gS0 : Blk w1 w.heap.size #[.int .i64 s] 3 := (Blk.at_ rfl).below hb1 (by simp)
        have hlt0 := gS0.lt
        refine gen_w (fun W => Below w.heap.size w W ∧ Blk W w.heap.size #[.int .i64 s] 3 ∧ Blk W tb #[.int .i64 1, .int .i64 0] 82) ⟨bla (bl3 (Below.refl _ _) hb1), gS0.alloc _, Blk.at_ htb⟩ ?_
        rintro w2 ⟨hw2, gS, gT⟩
        have htw : w.heap.size < tb := by omega
        clear htb hb1 gS0 hlt0
        go_loopw [7] (fun v wr => ∃ (u : Nat) (size value : Int), v = .int .i64 u ∧ u ≤ l.length ∧ 0 ≤ value ∧ value < size ∧ size ≤ 1000000000000 ∧ Below w.heap.size w wr ∧ Hid (Blk wr w.heap.size #[.int .i64 s] 3) ∧ Hid (Blk wr tb #[.int .i64 size, .int .i64 value] 82) ∧ Hid (fairR s m l = fairGo s m (l.drop u) size value u)) (fun v _ => l.length - (intOf v).toNat)
        case atStart => exact ⟨0, 1, 0, rfl, by omega, by omega, by omega, by omega, hw2, gS, gT, HT⟩
        case round =>
          clear HT gS gT hw2
          obtain ⟨u, size, value, rfl, hu, v0, v1, v2, hbr, GS, GT, HT⟩ := hrel
          by_cases hlt : value < size - size % m
          · have HY : Hid (fairR s m l = (value % m, (u : Int), 0)) := (by rw [HT.out, fairGo_yes hlt] : fairR s m l = _)
            have HC := Lib.hid (settle_yes tb size value m wr GT.out m1 m2 v0 v1 v2 hlt)
            obtain ⟨q, hq⟩ : ∃ q, q = value % m := ⟨_, rfl⟩
            rw [← hq] at HY HC
            clear hlt hq
            go_wp2_with (go_at_call 67; refine HC.out.mono ?_; rintro _ w3 ⟨rfl, hb3⟩)
            exact bodyPost_ret (v := .tuple #[.int .i64 q, .int .i64 u, .int .i64 0]) (by simp [results, Try.results23, go_sem]) rfl ⟨by rw [HY.out], bl2 hbr hb3⟩
          · have HC := Lib.hid (settle_no tb size value m wr GT.out m1 m2 v0 v1 v2 hlt)
            by_cases hul : u < l.length
            · obtain ⟨ab, ao, rfl, hblk, hc⟩ := (HR.out.below hbr).int_at hul
              obtain ⟨y0, y1⟩ := HOK.out _ (List.getElem_mem hul)
              obtain ⟨z1, z2, z3, z4, z5, z6, z7⟩ := fair_step (t := l[u]) m1 m2 s1 s2 v0 v1 hlt y0 y1
              have HN : Hid (fairR s m l = fairGo s m (l.drop (u + 1)) (size % m * s) ((value - (size - size % m)) * s + l[u]) ((u : Int) + 1)) := (by rw [HT.out, List.drop_eq_getElem_cons hul, fairGo_cons hlt] : fairR s m l = _)
              obtain ⟨x, hx⟩ : ∃ x, x = l[u] := ⟨_, rfl⟩
              obtain ⟨r, hr⟩ : ∃ r, r = size % m := ⟨_, rfl⟩
              obtain ⟨v, hv⟩ : ∃ v, v = value - (size - size % m) := ⟨_, rfl⟩
              rw [← hv] at HC HN z1 z2 z6 z7
              rw [← hr] at HC HN z2 z3 z4 z5 z7
              rw [← hx] at hc HN y0 y1 z1 z2
              have p0 : 0 ≤ r * s := Int.mul_nonneg z4 (by omega)
              have p1 : 0 ≤ v * s := Int.mul_nonneg z6 (by omega)
              clear hx hr hv hlt HT
              have hk0 : (0 : Int) ≤ (u : Int) := by omega
              have hk1 : (u : Int) < (l.length : Int) := by omega
              have du : ((u : Int) == (l.length : Int)) = false := by simp; omega
              have hAB := (hblk : ab < w.heap.size)
              go_wp2_with (go_at_call 67; refine HC.out.mono ?_; rintro _ w3 ⟨rfl, hb3, gT3, ht3⟩)
              have c3 : w3.cell? ⟨ab, ao + u, none⟩ = some (.int .i64 x) := (hb3.cell (p := ⟨ab, ao + u, none⟩) (by show ab < tb; omega)).trans hc
              have gS3 : Blk w3 w.heap.size #[.int .i64 s] 3 := GS.out.below hb3 htw
              have GS3 := Lib.hid gS3; have GT3 := Lib.hid gT3
              have q0 := gS3.cell 0; have q1 := gT3.cell 0; have q2 := gT3.cell 1; have f1 := gT3.free 0; have f2 := gT3.free 1
              simp at q0 q1 q2
              have hne : (tb == w.heap.size) = false := by simp; omega
              have hw3 : Below w.heap.size w w3 := hbr.trans (hb3.mono (by omega))
              have hz3 := gT3.lt
              clear HC hc gS3 gT3 ht3
              go_region
              all_goals (
                go_wp2
                go_roundw
                case rel => exact ⟨u + 1, r * s, v * s + x, by go_num, by omega, z1, z2, z3, by (repeat (first | exact Below.refl _ _ | assumption | (refine Below.alloc ?_ (by first | omega | (simp; omega) | (simp; done)) _) | (refine Below.setCell ?_ (by first | omega | (simp; omega) | (simp; done)) _) | (refine Below.drew ?_) | (refine belowN ?_ _) | (refine Below.trans ?_ (Below.mono ‹Below _ _ _› (by first | omega | (simp; omega) | (simp; done)))))), ((GS3.out.far ⟨tb, 0, none⟩ (by show w.heap.size ≠ tb; omega) _).far ⟨tb, 1, none⟩ (by show w.heap.size ≠ tb; omega) _ : Blk _ w.heap.size _ _), (by have := (GT3.out.set 0 (.int .i64 (r * s))).set 1 (.int .i64 (v * s + x)); simp at this; exact this : Blk _ tb _ _), (by rw [HN.out]; rfl : fairR s m l = fairGo s m (l.drop (u + 1)) (r * s) (v * s + x) ((u + 1 : Nat) : Int))⟩
                case measure => simp [intOf] <;> omega)
            · obtain rfl : u = l.length := by omega
              have HY : Hid (fairR s m l = (0, 0, 7)) := (by rw [HT.out, List.drop_length, fairGo_nil hlt] : fairR s m l = _)
              have hw := hbr
              obtain ⟨r, hr⟩ : ∃ r, r = size % m := ⟨_, rfl⟩
              rw [← hr] at HC
              have hwt : w.heap.size ≤ tb := by omega
              clear hlt HT hr
              go_wp2_with (go_at_call 67; refine HC.out.mono ?_; rintro _ w3 ⟨rfl, hb3, gT3, ht3⟩)
              exact bodyPost_ret (v := .tuple #[.int .i64 0, .int .i64 0, .int .i64 7]) (by simp [results, Try.results23, go_sem]) rfl ⟨by rw [HY.out], hw.trans (hb3.mono hwt)⟩
end Go.Proofs.Ytmfbiohdmhbkoaa

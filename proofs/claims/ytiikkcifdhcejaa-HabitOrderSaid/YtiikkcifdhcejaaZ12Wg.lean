/- habit: scores. -/
import Derived.Test.YtiikkcifdhcejaaZ10Wf
import Derived.Test.YtiikkcifdhcejaaPlan
namespace Go.Proofs.Ytiikkcifdhcejaa
open Go.RowKit

/-- the list does not lie in blocks below lo -/
def Hi (lo : Nat) (A : Option Addr) : Prop := ∀ ad, A = some ad → lo ≤ ad.block
theorem Hi.mono {lo lo' : Nat} {A : Option Addr} (h : Hi lo A) (hl : lo' ≤ lo) : Hi lo' A := fun ad e => Nat.le_trans hl (h ad e)
theorem Hi.zero (A : Option Addr) : Hi 0 A := fun _ _ => Nat.zero_le _
theorem Sl.setFar {α : Type} {f : α → List Value} {size : Nat} {w : World} {B : Nat} {A : Option Addr} {l : List α} (h : Sl f size w B A l) {lo : Nat} (hi : Hi lo A) {p : Addr} (hp : p.block < lo) (v : Value) : Sl f size (w.setCell p v) B A l :=
  ⟨h.1, fun hn => by
    obtain ⟨b, o, e, hb, hc⟩ := h.2 hn
    have := hi _ e
    exact ⟨b, o, e, hb, fun j u hu => (World.cell?_setCell_far _ _ _ _ (by simp at this ⊢; omega)).trans (hc j u hu)⟩⟩
/-- a value that is a number of many words -/
def WdV (p len lo : Nat) (x : Value) (W : World) : Prop := ∃ (A : Option Addr) (c : Nat) (L : List Nat), x = .slice A L.length c ∧ Rep 18446744073709551616 L p ∧ L.length ≤ len ∧ Sl wordC 1 W W.heap.size A L ∧ Hi lo A
/-- a value that is a score -/
def ScV (p q len lo : Nat) (x : Value) (W : World) : Prop := ∃ (A : Option Addr) (c : Nat) (L : List Nat) (A2 : Option Addr) (c2 : Nat) (L2 : List Nat), x = .agg #[.slice A L.length c, .slice A2 L2.length c2] ∧ Rep 18446744073709551616 L p ∧ Rep 18446744073709551616 L2 q ∧ L.length ≤ len ∧ L2.length ≤ len ∧ Sl wordC 1 W W.heap.size A L ∧ Sl wordC 1 W W.heap.size A2 L2 ∧ Hi lo A ∧ Hi lo A2
theorem WdV.stays {p len lo : Nat} : Stays (WdV p len lo) := fun _ _ _ ⟨A, c, L, h1, h2, h3, h4, h5⟩ hb => ⟨A, c, L, h1, h2, h3, (h4.below hb).more hb.size, h5⟩
theorem ScV.stays {p q len lo : Nat} : Stays (ScV p q len lo) := fun _ _ _ ⟨A, c, L, A2, c2, L2, h1, h2, h3, h4, h5, h6, h7, h8⟩ hb => ⟨A, c, L, A2, c2, L2, h1, h2, h3, h4, h5, (h6.below hb).more hb.size, (h7.below hb).more hb.size, h8⟩
theorem ScV.mono {p q len lo lo' : Nat} {x : Value} {W : World} (h : ScV p q len lo x W) (hl : lo' ≤ lo) : ScV p q len lo' x W := by
  obtain ⟨A, c, L, A2, c2, L2, h1, h2, h3, h4, h5, h6, h7, h8, h9⟩ := h
  exact ⟨A, c, L, A2, c2, L2, h1, h2, h3, h4, h5, h6, h7, h8.mono hl, h9.mono hl⟩
/-- a score is returned -/
def RetS (p q len : Nat) (w : World) (e : Ending) (w' : World) : Prop := ∃ x, e = .returned x ∧ ScV p q len w.heap.size x w' ∧ Below w.heap.size w w'
theorem rep_one : Rep 18446744073709551616 [1] 1 := ⟨fun w hw => by simp at hw; omega, by simp [valD], fun x hx => by simp at hx; omega⟩
theorem longByN_any (A : Option Addr) (c : Nat) (l : List Nat) (n p : Nat) (w : World) (hl : l.length ≤ 1000000) (hn2 : n ≤ 1000000) (hd : Rep 18446744073709551616 l p) (hr : Sl wordC 1 w w.heap.size A l) :
    Calls Try.prog 81 #[.slice A l.length c, .int .i64 (n : Int)] w fun e w' => (∃ x, e = .returned x ∧ WdV (p * n) (l.length + 1) w.heap.size x w') ∧ Below w.heap.size w w' := by
  rcases Nat.eq_zero_or_pos n with h0 | h0
  · subst h0
    refine (longBy0_any A c l w).mono ?_
    rintro e w' ⟨A', c', rfl, hs, hi, hb⟩
    exact ⟨⟨_, rfl, A', c', [], rfl, by rw [Nat.mul_zero]; exact Rep.nil _, by simp, hs, hi⟩, hb⟩
  · refine (longBy_any A c l n w hl h0 (by omega) hd.dig hr).mono ?_
    rintro e w' ⟨A', c', rfl, hs, hi, hb⟩
    exact ⟨⟨_, rfl, A', c', _, rfl, hd.mul h0 (by omega), mulD_len (by decide) hd.dig, hs, hi⟩, hb⟩
set_option maxRecDepth 100000 in
set_option maxHeartbeats 4000000 in
theorem scWhole_any (w : World) : Calls Try.prog 52 #[] w (RetS 1 1 1 w) := by
  go_enter Try.func52, Try.ntmps52
  go_wp2
  refine gen_w (fun W => Blk W w.heap.size #[.slice (some ⟨w.heap.size + 1, 0, none⟩) 1 1, .slice (some ⟨w.heap.size + 1 + 1, 0, none⟩) 1 1] 79 ∧ Wrd W (w.heap.size + 1) [1] ∧ Wrd W (w.heap.size + 1 + 1) [1] ∧ Below w.heap.size w W) ⟨((Blk.new w _ _).alloc _).alloc _, (Blk.at_ (by simp)).alloc _, Blk.at_ (by simp), by (repeat (first | exact Below.refl _ _ | assumption | (refine Below.alloc ?_ (by first | omega | (simp; omega) | (simp; done)) _) | (refine Below.setCell ?_ (by first | omega | (simp; omega) | (simp; done)) _) | (refine Below.drew ?_) | (refine belowN ?_ _) | (refine Below.trans ?_ (Below.mono ‹Below _ _ _› (by first | omega | (simp; omega) | (simp; done))))))⟩ ?_
  rintro W ⟨g0, g1, g2, hW⟩
  have q0 := g0.cell 0; have q1 := g0.cell 1
  simp at q0 q1
  refine bodyPost_ret (v := .agg #[.slice (some ⟨w.heap.size + 1, 0, none⟩) 1 1, .slice (some ⟨w.heap.size + 1 + 1, 0, none⟩) 1 1]) (by simp [results, Try.results52, go_sem, q0, q1]) rfl ⟨_, rfl, ⟨_, _, [1], _, _, [1], rfl, rep_one, rep_one, by simp, by simp, g1.sl_take (k := 1) (by simp), g2.sl_take (k := 1) (by simp), fun ad h => (by cases h; simp), fun ad h => (by cases h; simp; omega)⟩, hW⟩
set_option maxRecDepth 100000 in
set_option maxHeartbeats 4000000 in
theorem scAnd_any (p q len : Nat) (x : Value) (n m : Nat) (w : World) (hlen : len ≤ 1000000) (hn : n ≤ 1000000) (hm : m ≤ 1000000) (lo : Nat) (hx : ScV p q len lo x w) :
    Calls Try.prog 54 #[x, .agg #[.int .i64 (n : Int), .int .i64 (m : Int)]] w (RetS (p * n) (q * m) (len + 1) w) := by
  obtain ⟨A, c, L, A2, c2, L2, rfl, hp, hq, hl, hl2, hs, hs2, -, -⟩ := hx
  have HB1 := Lib.hid (fun W (hW : Below w.heap.size w W) => (longByN_any A c L n p W (by omega) hn hp ((hs.below hW).more hW.size)))
  have HB2 := Lib.hid (fun W (hW : Below w.heap.size w W) => (longByN_any A2 c2 L2 m q W (by omega) hm hq ((hs2.below hW).more hW.size)))
  have HL := Lib.hid hl; have HL2 := Lib.hid hl2
  clear hs hs2 hp hq hl hl2
  go_enter Try.func54, Try.ntmps54
  go_wp2
  refine gen_w (fun W => Blk W w.heap.size #[.slice A L.length c, .slice A2 L2.length c2] 79 ∧ Blk W (w.heap.size + 1) #[.int .i64 (n : Int), .int .i64 (m : Int)] 87 ∧ Blk W (w.heap.size + 1 + 1) #[.slice none 0 0, .slice none 0 0] 79 ∧ Below w.heap.size w W) ⟨((Blk.new w _ _).alloc _).alloc _, (Blk.at_ (by simp)).alloc _, Blk.at_ (by simp), by (repeat (first | exact Below.refl _ _ | assumption | (refine Below.alloc ?_ (by first | omega | (simp; omega) | (simp; done)) _) | (refine Below.setCell ?_ (by first | omega | (simp; omega) | (simp; done)) _) | (refine Below.drew ?_) | (refine belowN ?_ _) | (refine Below.trans ?_ (Below.mono ‹Below _ _ _› (by first | omega | (simp; omega) | (simp; done))))))⟩ ?_
  rintro V ⟨g0, g1, g2, hV⟩
  have hS : ∀ W, Below V.heap.size V W → W.cell? ⟨w.heap.size, 0, none⟩ = some (.slice A L.length c) ∧ W.cell? ⟨w.heap.size, 1, none⟩ = some (.slice A2 L2.length c2) ∧ W.cell? ⟨w.heap.size + 1, 0, none⟩ = some (.int .i64 (n : Int)) ∧ W.cell? ⟨w.heap.size + 1, 1, none⟩ = some (.int .i64 (m : Int)) := fun W hW => by
    have g0 := g0.below hW g0.lt
    have g1 := g1.below hW g1.lt
    have c0 := g0.cell 0; have c1 := g0.cell 1; have c2 := g1.cell 0; have c3 := g1.cell 1
    simp at c0 c1 c2 c3
    exact ⟨c0, c1, c2, c3⟩
  obtain ⟨bb, hbb⟩ : ∃ b, b = w.heap.size + 1 + 1 := ⟨_, rfl⟩
  rw [← hbb] at g2 ⊢
  have hbl := g2.lt
  have hbw : w.heap.size ≤ bb := by omega
  clear hbb
  go_cut [15] (fun s15 wx => ∃ v0 v1 : Value, s15 = .agg #[v0, v1] ∧ Hid (Blk wx bb #[v0, v1] 79) ∧ Hid (ScV (p * n) (q * m) (len + 1) w.heap.size s15 wx) ∧ Hid (Below w.heap.size w wx))
  case first =>
    refine' wp_region_plan 11 [10, 9, 8, 7, 6, 5, 4, 3, 2, 1, 0] [.eff, .eff, .eff, .eff, .eff, .eff, .eff, .eff, .eff, .eff, .eff, .last] [Det _, Det _, Det _, Det _, WdV (p * n) (L.length + 1) V.heap.size, Det _, Det _, Det _, Det _, WdV (q * m) (L2.length + 1) V.heap.size, ScV (p * n) (q * m) (len + 1) V.heap.size, noF] (by rfl) [(10, 15)] [(10, 15), (9, 14), (8, 13), (7, 12), (6, 11), (5, 10), (4, 9), (3, 8), (2, 7), (1, 6), (0, 5)] (by kernel_rfl) (by kernel_rfl) (by kernel_rfl) (by kernel_rfl) (by kernel_rfl) (by kernel_rfl) (by kernel_rfl) (by kernel_rfl) (by kernel_rfl) rfl ?hp ?hend ?hst
    case hp =>
      refine And.intro ⟨[], by kernel_rfl, fun xs W hW hf K hK => opV_free rfl ?_⟩ ?_
      focus (have hs := hS W hW; (try simp only [factsL, pickF, Det, and_true] at hf); (try simp only [putL, Act.put, List.setIfInBounds_toArray, List.set_cons_zero, List.set_cons_succ]); (try simp only [hf]); go_simp; refine hK.out _ _ (Below.refl _ _) ?_; unfold Det; rfl)
      refine And.intro ⟨[(0, 5)], by kernel_rfl, fun xs W hW hf K hK => opV_free rfl ?_⟩ ?_
      focus (have hs := hS W hW; (try simp only [factsL, pickF, Det, and_true] at hf); (try simp only [putL, Act.put, List.setIfInBounds_toArray, List.set_cons_zero, List.set_cons_succ]); (try simp only [hf]); go_simp; refine hK.out _ _ (Below.refl _ _) ?_; unfold Det; rfl)
      refine And.intro ⟨[], by kernel_rfl, fun xs W hW hf K hK => opV_free rfl ?_⟩ ?_
      focus (have hs := hS W hW; (try simp only [factsL, pickF, Det, and_true] at hf); (try simp only [putL, Act.put, List.setIfInBounds_toArray, List.set_cons_zero, List.set_cons_succ]); (try simp only [hf]); go_simp; refine hK.out _ _ (Below.refl _ _) ?_; unfold Det; rfl)
      refine And.intro ⟨[(2, 7)], by kernel_rfl, fun xs W hW hf K hK => opV_free rfl ?_⟩ ?_
      focus (have hs := hS W hW; (try simp only [factsL, pickF, Det, and_true] at hf); (try simp only [putL, Act.put, List.setIfInBounds_toArray, List.set_cons_zero, List.set_cons_succ]); (try simp only [hf]); go_simp; refine hK.out _ _ (Below.refl _ _) ?_; unfold Det; rfl)
      refine And.intro ⟨[(3, 8), (1, 6)], by kernel_rfl, fun xs W hW hf K hK => opV_free rfl ?_⟩ ?_
      · simp only [factsL, pickF, Det, and_true] at hf
        (try simp only [putL, Act.put, List.setIfInBounds_toArray, List.set_cons_zero, List.set_cons_succ])
        simp only [hf]
        go_simp
        refine (HB1.out _ (bl2 hV hW)).mono ?_
        rintro _ w9 ⟨⟨x, rfl, A9, c9, L9, y1, y2, y3, y4, y5⟩, hb9⟩
        exact ⟨_, rfl, hK.out _ _ hb9 ⟨A9, c9, L9, y1, y2, y3, y4, y5.mono hW.size⟩⟩
      refine And.intro ⟨[], by kernel_rfl, fun xs W hW hf K hK => opV_free rfl ?_⟩ ?_
      focus (have hs := hS W hW; (try simp only [factsL, pickF, Det, and_true] at hf); (try simp only [putL, Act.put, List.setIfInBounds_toArray, List.set_cons_zero, List.set_cons_succ]); (try simp only [hf]); go_simp; refine hK.out _ _ (Below.refl _ _) ?_; unfold Det; rfl)
      refine And.intro ⟨[(5, 10)], by kernel_rfl, fun xs W hW hf K hK => opV_free rfl ?_⟩ ?_
      focus (have hs := hS W hW; (try simp only [factsL, pickF, Det, and_true] at hf); (try simp only [putL, Act.put, List.setIfInBounds_toArray, List.set_cons_zero, List.set_cons_succ]); (try simp only [hf]); go_simp; refine hK.out _ _ (Below.refl _ _) ?_; unfold Det; rfl)
      refine And.intro ⟨[], by kernel_rfl, fun xs W hW hf K hK => opV_free rfl ?_⟩ ?_
      focus (have hs := hS W hW; (try simp only [factsL, pickF, Det, and_true] at hf); (try simp only [putL, Act.put, List.setIfInBounds_toArray, List.set_cons_zero, List.set_cons_succ]); (try simp only [hf]); go_simp; refine hK.out _ _ (Below.refl _ _) ?_; unfold Det; rfl)
      refine And.intro ⟨[(7, 12)], by kernel_rfl, fun xs W hW hf K hK => opV_free rfl ?_⟩ ?_
      focus (have hs := hS W hW; (try simp only [factsL, pickF, Det, and_true] at hf); (try simp only [putL, Act.put, List.setIfInBounds_toArray, List.set_cons_zero, List.set_cons_succ]); (try simp only [hf]); go_simp; refine hK.out _ _ (Below.refl _ _) ?_; unfold Det; rfl)
      refine And.intro ⟨[(8, 13), (6, 11)], by kernel_rfl, fun xs W hW hf K hK => opV_free rfl ?_⟩ ?_
      · simp only [factsL, pickF, Det, and_true] at hf
        (try simp only [putL, Act.put, List.setIfInBounds_toArray, List.set_cons_zero, List.set_cons_succ])
        simp only [hf]
        go_simp
        refine (HB2.out _ (bl2 hV hW)).mono ?_
        rintro _ w9 ⟨⟨x, rfl, A9, c9, L9, y1, y2, y3, y4, y5⟩, hb9⟩
        exact ⟨_, rfl, hK.out _ _ hb9 ⟨A9, c9, L9, y1, y2, y3, y4, y5.mono hW.size⟩⟩
      refine And.intro ⟨[(9, 14), (4, 9)], by kernel_rfl, fun xs W hW hf K hK => opV_free rfl ?_⟩ ?_
      · simp only [factsL, pickF, Det, and_true] at hf
        (try simp only [putL, Act.put, List.setIfInBounds_toArray, List.set_cons_zero, List.set_cons_succ])
        obtain ⟨⟨A', c', L', h1, h2, h3, h4, i4⟩, ⟨A3, c3, L3, h5, h6, h7, h8, i8⟩⟩ := hf
        simp only [h1, h5]
        go_simp
        exact hK.out _ _ (Below.refl _ _) ⟨A3, c3, L3, A', c', L', rfl, h6, h2, by have := HL.out; omega, by have := HL2.out; omega, h8, h4, i8, i4⟩
      trivial
    case hst => exact ⟨det_stays, det_stays, det_stays, det_stays, WdV.stays, det_stays, det_stays, det_stays, det_stays, WdV.stays, ScV.stays, noF_stays, trivial⟩
    case hend =>
      intro xs W hW hf
      simp only [factsA, Det, noF, Nat.zero_add, Nat.reduceAdd, and_true] at hf
      obtain ⟨f0, f1, f2, f3, f4, f5, f6, f7, f8, f9, A3, c3, L3, A4, c4, L4, f10, h1, h2, h3, h4, h5, h6, h7, h8⟩ := hf
      refine opV_free rfl ?_
      (simp only [putL, Act.put, upd, List.setIfInBounds_toArray, List.set_cons_zero, List.set_cons_succ])
      simp only [f0, f1, f2, f3, f5, f6, f7, f8, f10]
      have gW := g2.below hW g2.lt
      have hB0 := gW.free 0; have hB1 := gW.free 1
      have hC0 := gW.cell 0; have hC1 := gW.cell 1
      simp at hC0 hC1
      go_simp
      go_wp2_with fail
      go_meet
      have hws : w.heap.size ≤ V.heap.size := hV.size
      have hz1 := hW.size
      refine ⟨_, _, rfl, ?_, ?_, ?_⟩
      · have := (gW.set 0 (.slice A3 L3.length c3)).set 1 (.slice A4 L4.length c4); simp at this; exact this
      · exact ⟨A3, c3, L3, A4, c4, L4, rfl, h1, h2, h3, h4, by simpa using (h5.setFar h7 (p := ⟨bb, 0, none⟩) hbl _).setFar h7 (p := ⟨bb, 1, none⟩) hbl _, by simpa using (h6.setFar h8 (p := ⟨bb, 0, none⟩) hbl _).setFar h8 (p := ⟨bb, 1, none⟩) hbl _, h7.mono hws, h8.mono hws⟩
      · exact ((bl2 hV hW).setCell (p := ⟨bb, 0, none⟩) hbw _).setCell (p := ⟨bb, 1, none⟩) hbw _
  case rest =>
    obtain ⟨v0, v1, rfl, HB, HSV, HW⟩ := hcut
    rename World => W
    go_wp2_with fail
    have q0 := HB.out.cell 0; have q1 := HB.out.cell 1
    simp at q0 q1
    exact bodyPost_ret (v := .agg #[v0, v1]) (by simp [results, Try.results54, go_sem, q0, q1]) rfl ⟨_, rfl, HSV.out, HW.out⟩
theorem longTimesV_any (A : Option Addr) (c : Nat) (l : List Nat) (A2 : Option Addr) (c2 : Nat) (m : List Nat) (x y len : Nat) (w : World) (hl : l.length ≤ len) (hm : m.length ≤ len) (hle : len ≤ 1000000) (hx : Rep 18446744073709551616 l x) (hy : Rep 18446744073709551616 m y) (hr : Sl wordC 1 w w.heap.size A l) (hr2 : Sl wordC 1 w w.heap.size A2 m) :
    Calls Try.prog 74 #[.slice A l.length c, .slice A2 m.length c2] w fun e w' => (∃ v, e = .returned v ∧ WdV (x * y) (len + len) 0 v w') ∧ Below w.heap.size w w' := by
  refine (longTimes_any A c l A2 c2 m x y w (by omega) (by omega) hx hy hr hr2).mono ?_
  rintro e w' ⟨L, h1, h2, A', c', rfl, hs, hi, hb⟩
  exact ⟨⟨_, rfl, A', c', L, rfl, h1, by omega, hs, Hi.zero _⟩, hb⟩
set_option maxRecDepth 100000 in
set_option maxHeartbeats 4000000 in
theorem scCmp_any (p q r t len : Nat) (x y : Value) (lo lo2 : Nat) (w : World) (hlen : len ≤ 1000000) (hx : ScV p q len lo x w) (hy : ScV r t len lo2 y w) :
    Calls Try.prog 42 #[x, y] w fun e w' => e = .returned (.int .i64 (cmpN (p * t) (r * q))) ∧ Below w.heap.size w w' := by
  obtain ⟨A, c, L, A2, c2, L2, rfl, hp, hq, hl, hl2, hs, hs2, -, -⟩ := hx
  obtain ⟨A3, c3, L3, A4, c4, L4, rfl, hr, ht, hl3, hl4, hs3, hs4, -, -⟩ := hy
  have HB1 := Lib.hid (fun W (hW : Below w.heap.size w W) => (longTimesV_any A c L A4 c4 L4 p t len W hl hl4 hlen hp ht ((hs.below hW).more hW.size) ((hs4.below hW).more hW.size)))
  have HB2 := Lib.hid (fun W (hW : Below w.heap.size w W) => (longTimesV_any A3 c3 L3 A2 c2 L2 r q len W hl3 hl2 hlen hr hq ((hs3.below hW).more hW.size) ((hs2.below hW).more hW.size)))
  clear hs hs2 hs3 hs4 hp hq hr ht hl hl2 hl3 hl4
  go_enter Try.func42, Try.ntmps42
  go_wp2
  refine gen_w (fun W => Blk W w.heap.size #[.slice A L.length c, .slice A2 L2.length c2] 79 ∧ Blk W (w.heap.size + 1) #[.slice A3 L3.length c3, .slice A4 L4.length c4] 79 ∧ Below w.heap.size w W) ⟨(Blk.new w _ _).alloc _, Blk.at_ (by simp), by (repeat (first | exact Below.refl _ _ | assumption | (refine Below.alloc ?_ (by first | omega | (simp; omega) | (simp; done)) _) | (refine Below.setCell ?_ (by first | omega | (simp; omega) | (simp; done)) _) | (refine Below.drew ?_) | (refine belowN ?_ _) | (refine Below.trans ?_ (Below.mono ‹Below _ _ _› (by first | omega | (simp; omega) | (simp; done))))))⟩ ?_
  rintro V ⟨g0, g1, hV⟩
  have hS : ∀ W, Below V.heap.size V W → W.cell? ⟨w.heap.size, 0, none⟩ = some (.slice A L.length c) ∧ W.cell? ⟨w.heap.size, 1, none⟩ = some (.slice A2 L2.length c2) ∧ W.cell? ⟨w.heap.size + 1, 0, none⟩ = some (.slice A3 L3.length c3) ∧ W.cell? ⟨w.heap.size + 1, 1, none⟩ = some (.slice A4 L4.length c4) := fun W hW => by
    have g0 := g0.below hW g0.lt
    have g1 := g1.below hW g1.lt
    have c0 := g0.cell 0; have c1 := g0.cell 1; have c2 := g1.cell 0; have c3 := g1.cell 1
    simp at c0 c1 c2 c3
    exact ⟨c0, c1, c2, c3⟩
  refine' wp_region_planE [.eff, .eff, .eff, .eff, .eff, .eff, .eff, .eff, .eff, .eff, .eff, .eff] [Det _, Det _, Det _, Det _, WdV (p * t) (len + len) 0, Det _, Det _, Det _, Det _, WdV (r * q) (len + len) 0, Det (.int .i64 (cmpN (p * t) (r * q))), Det _] [(11, 4), (10, 15), (9, 14), (8, 13), (7, 12), (6, 11), (5, 10), (4, 9), (3, 8), (2, 7), (1, 6), (0, 5)] (by kernel_rfl) (by kernel_rfl) (by kernel_rfl) (by kernel_rfl) (by kernel_rfl) (by kernel_rfl) (by kernel_rfl) ?hp ?hend ?hst
  case hp =>
    refine And.intro ⟨[], by kernel_rfl, fun xs W hW hf K hK => opV_free rfl ?_⟩ ?_
    focus (have hs := hS W hW; (try simp only [factsL, pickF, Det, and_true] at hf); (try simp only [putL, Act.put, List.setIfInBounds_toArray, List.set_cons_zero, List.set_cons_succ]); (try simp only [hf]); go_simp; refine hK.out _ _ (Below.refl _ _) ?_; unfold Det; rfl)
    refine And.intro ⟨[(0, 5)], by kernel_rfl, fun xs W hW hf K hK => opV_free rfl ?_⟩ ?_
    focus (have hs := hS W hW; (try simp only [factsL, pickF, Det, and_true] at hf); (try simp only [putL, Act.put, List.setIfInBounds_toArray, List.set_cons_zero, List.set_cons_succ]); (try simp only [hf]); go_simp; refine hK.out _ _ (Below.refl _ _) ?_; unfold Det; rfl)
    refine And.intro ⟨[], by kernel_rfl, fun xs W hW hf K hK => opV_free rfl ?_⟩ ?_
    focus (have hs := hS W hW; (try simp only [factsL, pickF, Det, and_true] at hf); (try simp only [putL, Act.put, List.setIfInBounds_toArray, List.set_cons_zero, List.set_cons_succ]); (try simp only [hf]); go_simp; refine hK.out _ _ (Below.refl _ _) ?_; unfold Det; rfl)
    refine And.intro ⟨[(2, 7)], by kernel_rfl, fun xs W hW hf K hK => opV_free rfl ?_⟩ ?_
    focus (have hs := hS W hW; (try simp only [factsL, pickF, Det, and_true] at hf); (try simp only [putL, Act.put, List.setIfInBounds_toArray, List.set_cons_zero, List.set_cons_succ]); (try simp only [hf]); go_simp; refine hK.out _ _ (Below.refl _ _) ?_; unfold Det; rfl)
    refine And.intro ⟨[(3, 8), (1, 6)], by kernel_rfl, fun xs W hW hf K hK => opV_free rfl ?_⟩ ?_
    · simp only [factsL, pickF, Det, and_true] at hf
      (try simp only [putL, Act.put, List.setIfInBounds_toArray, List.set_cons_zero, List.set_cons_succ])
      simp only [hf]
      go_simp
      refine (HB1.out _ (bl2 hV hW)).mono ?_
      rintro _ w9 ⟨⟨x, rfl, hx⟩, hb9⟩
      exact ⟨_, rfl, hK.out _ _ hb9 hx⟩
    refine And.intro ⟨[], by kernel_rfl, fun xs W hW hf K hK => opV_free rfl ?_⟩ ?_
    focus (have hs := hS W hW; (try simp only [factsL, pickF, Det, and_true] at hf); (try simp only [putL, Act.put, List.setIfInBounds_toArray, List.set_cons_zero, List.set_cons_succ]); (try simp only [hf]); go_simp; refine hK.out _ _ (Below.refl _ _) ?_; unfold Det; rfl)
    refine And.intro ⟨[(5, 10)], by kernel_rfl, fun xs W hW hf K hK => opV_free rfl ?_⟩ ?_
    focus (have hs := hS W hW; (try simp only [factsL, pickF, Det, and_true] at hf); (try simp only [putL, Act.put, List.setIfInBounds_toArray, List.set_cons_zero, List.set_cons_succ]); (try simp only [hf]); go_simp; refine hK.out _ _ (Below.refl _ _) ?_; unfold Det; rfl)
    refine And.intro ⟨[], by kernel_rfl, fun xs W hW hf K hK => opV_free rfl ?_⟩ ?_
    focus (have hs := hS W hW; (try simp only [factsL, pickF, Det, and_true] at hf); (try simp only [putL, Act.put, List.setIfInBounds_toArray, List.set_cons_zero, List.set_cons_succ]); (try simp only [hf]); go_simp; refine hK.out _ _ (Below.refl _ _) ?_; unfold Det; rfl)
    refine And.intro ⟨[(7, 12)], by kernel_rfl, fun xs W hW hf K hK => opV_free rfl ?_⟩ ?_
    focus (have hs := hS W hW; (try simp only [factsL, pickF, Det, and_true] at hf); (try simp only [putL, Act.put, List.setIfInBounds_toArray, List.set_cons_zero, List.set_cons_succ]); (try simp only [hf]); go_simp; refine hK.out _ _ (Below.refl _ _) ?_; unfold Det; rfl)
    refine And.intro ⟨[(8, 13), (6, 11)], by kernel_rfl, fun xs W hW hf K hK => opV_free rfl ?_⟩ ?_
    · simp only [factsL, pickF, Det, and_true] at hf
      (try simp only [putL, Act.put, List.setIfInBounds_toArray, List.set_cons_zero, List.set_cons_succ])
      simp only [hf]
      go_simp
      refine (HB2.out _ (bl2 hV hW)).mono ?_
      rintro _ w9 ⟨⟨x, rfl, hx⟩, hb9⟩
      exact ⟨_, rfl, hK.out _ _ hb9 hx⟩
    refine And.intro ⟨[(9, 14), (4, 9)], by kernel_rfl, fun xs W hW hf K hK => opV_free rfl ?_⟩ ?_
    · simp only [factsL, pickF, Det, and_true] at hf
      (try simp only [putL, Act.put, List.setIfInBounds_toArray, List.set_cons_zero, List.set_cons_succ])
      obtain ⟨⟨A', c', L', h1, h2, h3, h4, i4⟩, ⟨A5, c5, L5, h5, h6, h7, h8, i8⟩⟩ := hf
      simp only [h1, h5]
      go_simp
      refine (longCmp_any A5 c5 L5 A' c' L' (p * t) (r * q) _ (by omega) (by omega) h6 h2 h8 h4).mono ?_
      rintro _ w9 ⟨rfl, hb9⟩
      exact ⟨_, rfl, hK.out _ _ hb9 rfl⟩
    refine And.intro ⟨[(10, 15)], by kernel_rfl, fun xs W hW hf K hK => opV_free rfl ?_⟩ ?_
    focus (have hs := hS W hW; (try simp only [factsL, pickF, Det, and_true] at hf); (try simp only [putL, Act.put, List.setIfInBounds_toArray, List.set_cons_zero, List.set_cons_succ]); (try simp only [hf]); go_simp; refine hK.out _ _ (Below.refl _ _) ?_; unfold Det; rfl)
    trivial
  case hst => exact ⟨det_stays, det_stays, det_stays, det_stays, WdV.stays, det_stays, det_stays, det_stays, det_stays, WdV.stays, det_stays, det_stays, trivial⟩
  case hend =>
    intro xs W hW hf
    simp only [factsA, Det, Nat.zero_add, Nat.reduceAdd, and_true] at hf
    obtain ⟨f0, f1, f2, f3, f4, f5, f6, f7, f8, f9, f10, f11⟩ := hf
    (simp only [putL, Act.put, upd, List.setIfInBounds_toArray, List.set_cons_zero, List.set_cons_succ])
    simp only [f0, f1, f2, f3, f5, f6, f7, f8, f10, f11]
    clear f4 f9
    go_wp2
    go_ret
    exact ⟨rfl, bl2 hV hW⟩
end Go.Proofs.Ytiikkcifdhcejaa
namespace Go.Proofs.Ytiikkcifdhcejaa
open Go.RowKit

/-- block b begins with these integers -/
def LeftAt (W : World) (b : Nat) (l : List Int) : Prop := ∃ cur : Array Value, Blk W b cur 3 ∧ cur.toList.take l.length = l.map (Value.int .i64)
/-- a hand in memory: its value, its own blocks h and lb -/
def HandV (x : Md) (r0 : LL) (st : HSt) (h lb : Nat) (v : Value) (W : World) : Prop :=
  (x.kind = 1 ∧ v = .iface 130 (.pointer (some ⟨h, 0, none⟩)) ∧ Blk W h #[.slice r0.a r0.l.length r0.c, .int .i64 (totI r0.l)] 123) ∨
  (x.kind = 2 ∧ v = .iface 124 (.pointer (some ⟨h, 0, none⟩)) ∧ Blk W h #[.slice x.a x.rows.length x.c, .int .i64 (st.next : Int)] 126) ∨
  (x.kind = 3 ∧ v = .iface 127 (.pointer (some ⟨h, 0, none⟩)) ∧ ∃ (LA : Option Addr) (LN LC : Nat), Blk W h #[.slice r0.a r0.l.length r0.c, .int .i64 (totI r0.l), .slice LA LN LC, .int .i64 (st.aside : Int), .int .i64 x.after] 129 ∧ (st.aside ≠ 0 → LA = some ⟨lb, 0, none⟩ ∧ LN = st.left.length ∧ LeftAt W lb st.left ∧ lb ≠ h))
def st0 : HSt := ⟨0, [], 0⟩
set_option maxRecDepth 100000 in
set_option maxHeartbeats 4000000 in
theorem startH_any (x : Md) (r0 : LL) (t : List LL) (w : World) (hx : x.reads w w.heap.size) (hr0 : x.rows = r0 :: t) (ok : ModOk x.m) :
    Calls Try.prog 44 #[.agg #[.int .i64 x.kind, .slice x.a x.rows.length x.c, .int .i64 x.after]] w fun e w' => ∃ v h, e = .returned v ∧ HandV x r0 st0 h h v w' ∧ w.heap.size ≤ h ∧ Below w.heap.size w w' := by
  obtain ⟨kd, A, c, rows, af⟩ := x
  simp only at hr0
  subst hr0
  obtain ⟨ab, ao, rfl, hblk, hcell, hsl⟩ := hx.ls.at_ (k := 0) (by simp)
  simp only [List.getElem_cons_zero, Nat.add_zero] at hcell hsl
  have hrow := ok.row r0.l (by simp [Md.m])
  have hrl := hx.rl r0 (by simp)
  have HT := Lib.hid (fun W (hW : Below w.heap.size w W) => mtotal_any r0.a r0.c r0.l W hrl (fun y hy => (hrow.2.1 y hy).1) (by have := totI_le (b := 1000) (fun y hy => (hrow.2.1 y hy).2); rw [totI_sumL] at this; omega) ((hsl.below hW).more hW.size))
  rw [← totI_sumL] at HT
  have hK := ok.kind
  simp only [Md.m] at hK
  have HK := Lib.hid hK
  obtain ⟨N, hN⟩ : ∃ N, N = (r0 :: t).length := ⟨_, rfl⟩
  have hN0 : 0 < N := by rw [hN]; simp
  have HN := Lib.hid hN
  clear hx hsl hrow hrl ok hK
  rw [← hN]
  have hN1 : (0 : Int) < (N : Int) := by omega
  clear hN
  go_enter Try.func44, Try.ntmps44
  go_wp2
  refine gen_w (fun W => Blk W w.heap.size #[.int .i64 kd, .slice (some ⟨ab, ao, none⟩) N c, .int .i64 af] 25 ∧ Below w.heap.size w W) ⟨Blk.new w _ _, by (repeat (first | exact Below.refl _ _ | assumption | (refine Below.alloc ?_ (by first | omega | (simp; omega) | (simp; done)) _) | (refine Below.setCell ?_ (by first | omega | (simp; omega) | (simp; done)) _) | (refine Below.drew ?_) | (refine belowN ?_ _) | (refine Below.trans ?_ (Below.mono ‹Below _ _ _› (by first | omega | (simp; omega) | (simp; done))))))⟩ ?_
  rintro V ⟨g0, hV⟩
  have hS : ∀ W, Below V.heap.size V W → W.cell? ⟨w.heap.size, 1, none⟩ = some (.slice (some ⟨ab, ao, none⟩) N c) ∧ W.cell? ⟨ab, ao, none⟩ = some (.slice r0.a r0.l.length r0.c) := fun W hW => by
    have g0 := g0.below hW g0.lt
    have c1 := g0.cell 1
    simp at c1
    exact ⟨c1, ((bcell (bl2 hV hW)).1 ab ao hblk).trans hcell⟩
  go_cut [3] (fun s3 wx => ∃ b3 : Nat, s3 = .pointer (some ⟨b3, 0, none⟩) ∧ Hid (Below V.heap.size V wx) ∧ V.heap.size ≤ b3 ∧ Hid (Blk wx b3 #[.slice r0.a r0.l.length r0.c, .int .i64 (totI r0.l)] 123))
  case first =>
    refine' wp_region_plan 11 [10, 9, 8, 7, 6, 5, 4, 3, 2, 1, 0] [.eff, .eff, .eff, .eff, .eff, .eff, .eff, .eff, .eff, .eff, .eff, .last] [Det _, Det _, Det _, Det _, Det _, Det _, Det _, Det _, Det (.int .i64 (totI r0.l)), Det _, fun x W => ∃ b3, x = .pointer (some ⟨b3, 0, none⟩) ∧ Blk W b3 #[.slice none 0 0, .int .i64 0] 123 ∧ V.heap.size ≤ b3, noF] (by rfl) [(10, 3), (9, 13)] [(10, 3), (9, 13), (8, 12), (7, 11), (6, 10), (5, 9), (4, 8), (3, 7), (2, 6), (1, 5), (0, 4)] (by kernel_rfl) (by kernel_rfl) (by kernel_rfl) (by kernel_rfl) (by kernel_rfl) (by kernel_rfl) (by kernel_rfl) (by kernel_rfl) (by kernel_rfl) rfl ?hp ?hend ?hst
    case hp =>
      refine And.intro ⟨[], by kernel_rfl, fun xs W hW hf K hK => opV_free rfl ?_⟩ ?_
      focus (have hs := hS W hW; (try simp only [factsL, pickF, Det, and_true] at hf); (try simp only [putL, Act.put, List.setIfInBounds_toArray, List.set_cons_zero, List.set_cons_succ]); (try simp only [hf]); go_simp; refine hK.out _ _ (Below.refl _ _) ?_; unfold Det; rfl)
      refine And.intro ⟨[(0, 4)], by kernel_rfl, fun xs W hW hf K hK => opV_free rfl ?_⟩ ?_
      focus (have hs := hS W hW; (try simp only [factsL, pickF, Det, and_true] at hf); (try simp only [putL, Act.put, List.setIfInBounds_toArray, List.set_cons_zero, List.set_cons_succ]); (try simp only [hf]); go_simp; refine hK.out _ _ (Below.refl _ _) ?_; unfold Det; rfl)
      refine And.intro ⟨[(1, 5)], by kernel_rfl, fun xs W hW hf K hK => opV_free rfl ?_⟩ ?_
      focus (have hs := hS W hW; (try simp only [factsL, pickF, Det, and_true] at hf); (try simp only [putL, Act.put, List.setIfInBounds_toArray, List.set_cons_zero, List.set_cons_succ]); (try simp only [hf]); go_simp; refine hK.out _ _ (Below.refl _ _) ?_; unfold Det; rfl)
      refine And.intro ⟨[(2, 6)], by kernel_rfl, fun xs W hW hf K hK => opV_free rfl ?_⟩ ?_
      focus (have hs := hS W hW; (try simp only [factsL, pickF, Det, and_true] at hf); (try simp only [putL, Act.put, List.setIfInBounds_toArray, List.set_cons_zero, List.set_cons_succ]); (try simp only [hf]); go_simp; refine hK.out _ _ (Below.refl _ _) ?_; unfold Det; rfl)
      refine And.intro ⟨[], by kernel_rfl, fun xs W hW hf K hK => opV_free rfl ?_⟩ ?_
      focus (have hs := hS W hW; (try simp only [factsL, pickF, Det, and_true] at hf); (try simp only [putL, Act.put, List.setIfInBounds_toArray, List.set_cons_zero, List.set_cons_succ]); (try simp only [hf]); go_simp; refine hK.out _ _ (Below.refl _ _) ?_; unfold Det; rfl)
      refine And.intro ⟨[(4, 8)], by kernel_rfl, fun xs W hW hf K hK => opV_free rfl ?_⟩ ?_
      focus (have hs := hS W hW; (try simp only [factsL, pickF, Det, and_true] at hf); (try simp only [putL, Act.put, List.setIfInBounds_toArray, List.set_cons_zero, List.set_cons_succ]); (try simp only [hf]); go_simp; refine hK.out _ _ (Below.refl _ _) ?_; unfold Det; rfl)
      refine And.intro ⟨[(5, 9)], by kernel_rfl, fun xs W hW hf K hK => opV_free rfl ?_⟩ ?_
      focus (have hs := hS W hW; (try simp only [factsL, pickF, Det, and_true] at hf); (try simp only [putL, Act.put, List.setIfInBounds_toArray, List.set_cons_zero, List.set_cons_succ]); (try simp only [hf]); go_simp; refine hK.out _ _ (Below.refl _ _) ?_; unfold Det; rfl)
      refine And.intro ⟨[(6, 10)], by kernel_rfl, fun xs W hW hf K hK => opV_free rfl ?_⟩ ?_
      focus (have hs := hS W hW; (try simp only [factsL, pickF, Det, and_true] at hf); (try simp only [putL, Act.put, List.setIfInBounds_toArray, List.set_cons_zero, List.set_cons_succ]); (try simp only [hf]); go_simp; refine hK.out _ _ (Below.refl _ _) ?_; unfold Det; rfl)
      refine And.intro ⟨[(7, 11)], by kernel_rfl, fun xs W hW hf K hK => opV_free rfl ?_⟩ ?_
      · simp only [factsL, pickF, Det, and_true] at hf
        (try simp only [putL, Act.put, List.setIfInBounds_toArray, List.set_cons_zero, List.set_cons_succ])
        simp only [hf]
        go_simp
        refine (HT.out _ (bl2 hV hW)).mono ?_
        rintro _ _ ⟨rfl, rfl⟩
        exact ⟨_, rfl, hK.out _ _ (Below.refl _ _) rfl⟩
      refine And.intro ⟨[(8, 12), (3, 7)], by kernel_rfl, fun xs W hW hf K hK => opV_free rfl ?_⟩ ?_
      focus (have hs := hS W hW; (try simp only [factsL, pickF, Det, and_true] at hf); (try simp only [putL, Act.put, List.setIfInBounds_toArray, List.set_cons_zero, List.set_cons_succ]); (try simp only [hf]); go_simp; refine hK.out _ _ (Below.refl _ _) ?_; unfold Det; rfl)
      refine And.intro ⟨[], by kernel_rfl, fun xs W hW hf K hK => opV_free rfl ?_⟩ ?_
      · simp only [factsL, pickF, Det, and_true] at hf
        (try simp only [putL, Act.put, List.setIfInBounds_toArray, List.set_cons_zero, List.set_cons_succ])
        go_simp
        exact hK.out _ _ ((Below.refl _ _).alloc (Nat.le_refl _) _) ⟨_, rfl, Blk.new _ _ _, hW.size⟩
      trivial
    case hst => exact ⟨det_stays, det_stays, det_stays, det_stays, det_stays, det_stays, det_stays, det_stays, det_stays, det_stays, fun x W W' ⟨b, h1, h2, h3⟩ hb => ⟨b, h1, h2.below hb h2.lt, h3⟩, noF_stays, trivial⟩
    case hend =>
      intro xs W hW hf
      simp only [factsA, Det, noF, Nat.zero_add, Nat.reduceAdd, and_true] at hf
      obtain ⟨f0, f1, f2, f3, f4, f5, f6, f7, f8, f9, b3, f10, hB, hz⟩ := hf
      refine opV_free rfl ?_
      (simp only [putL, Act.put, upd, List.setIfInBounds_toArray, List.set_cons_zero, List.set_cons_succ])
      simp only [f0, f1, f2, f3, f4, f5, f6, f7, f8, f9, f10]
      have hB0 := hB.free 0; have hB1 := hB.free 1
      have hC0 := hB.cell 0; have hC1 := hB.cell 1
      simp at hC0 hC1
      go_simp
      go_wp2_with fail
      go_meet
      refine ⟨b3, rfl, (hW.setCell (p := ⟨b3, 0, none⟩) hz _).setCell (p := ⟨b3, 1, none⟩) hz _, hz, ?_⟩
      have := (hB.set 0 (.slice r0.a r0.l.length r0.c)).set 1 (.int .i64 (totI r0.l)); simp at this; exact this
  case rest =>
    obtain ⟨b3, rfl, HV, hz, HB⟩ := hcut
    rename World => W
    have g0 := g0.below HV.out g0.lt
    have hW := bl2 hV HV.out
    have gl := g0.lt
    have gl3 := Blk.lt HB.out
    have z0 := g0.cell 0; have z1 := g0.cell 1; have z2 := g0.cell 2
    have y0 := Blk.cell HB.out 0; have y1 := Blk.cell HB.out 1
    simp at z0 z1 z2 y0 y1
    have hws : w.heap.size ≤ V.heap.size := hV.size
    have hwz := hW.size
    have hw3 : w.heap.size ≤ b3 := by omega
    clear hS HT
    rcases HK.out with ⟨k, -, -⟩ | ⟨k, -, -⟩ | ⟨k, -, -⟩
    · subst k
      go_wp2_with fail
      go_ret
      exact ⟨_, rfl, b3, .inl ⟨rfl, rfl, HB.out⟩, hw3, hW⟩
    · subst k
      go_wp2_with fail
      go_ret
      exact ⟨_, rfl, W.heap.size, .inr (.inl ⟨rfl, rfl, by simp only [← HN.out]; exact Blk.new W _ _⟩), hwz, hW.alloc hwz _⟩
    · subst k
      go_wp2_with fail
      go_ret
      exact ⟨_, rfl, W.heap.size, .inr (.inr ⟨rfl, rfl, none, 0, 0, Blk.new W _ _, fun h => absurd rfl h⟩), hwz, hW.alloc hwz _⟩
end Go.Proofs.Ytiikkcifdhcejaa

/- almanac: the reference's Days. -/
import Derived.Test.YtfbnllmmoaialaaZ27RfN
import Derived.Test.YtfbnllmmoaialaaZ21Hc
import Derived.Test.YtfbnllmmoaialaaBe
import Derived.Test.YtfbnllmmoaialaaZ29Bf
import Derived.Test.YtfbnllmmoaialaaZ28Pi
import Derived.Deep.RegionHeldLaw
import Derived.Deep.AppendLies
import Derived.Test.YtfbnllmmoaialaaZ26RfD
import Derived.Deep.DeepCutAuto
namespace Go.Proofs.Ytfbnllmmoaialaa
open Go.RowKit

theorem daysN_len (x : Alm) (ps : List DPs) (fr : Int) (n : Nat) : (daysN x ps fr n).length ≤ n := by
  unfold daysN
  exact Nat.le_trans (List.length_filter_le _ _) (by simp)
/-- what holds at the head of the loop over days -/
def DyRel (x : Alm) (ps : List DPs) (fr : Int) (w : World) (n : Nat) (pl i : Value) (wr : World) : Prop := ∃ (k : Nat) (Ap : Option Addr) (cp : Nat), k ≤ n ∧ i = .int .i64 (fr + k) ∧ pl = .slice Ap (daysN x ps fr k).length cp ∧ Hid (wr.ownsRow (w.heap.size + 1) 3 1 pl (daysN x ps fr k).length ((daysN x ps fr k).map (Value.int .i64))) ∧ Hid (Below w.heap.size w wr) ∧ Blk wr w.heap.size x.cells.toArray 28
set_option maxRecDepth 100000 in
set_option maxHeartbeats 4000000 in
theorem rdays_any (x : Alm) (A2 : Option Addr) (c2 : Nat) (ps : List DPs) (fr to_ : Int) (w : World) (hx : almB x = true) (h0 : 0 ≤ fr) (hto : to_ ≤ 1000000) (hle : fr ≤ to_ + 1) (hsp : to_ - fr ≤ 4000) (hv : ∀ p ∈ ps, ∀ r ∈ p.rules, badR x.cycles r = false) (hcx : Sl Cyc.cells 2 w w.heap.size x.a x.cycles) (hr : PsA w w.heap.size A2 ps) :
    Calls Try.prog 24 #[.agg x.cells.toArray, .slice A2 ps.length c2, .int .i64 fr, .int .i64 to_] w fun e w' => ∃ A c, e = .returned (.slice A (daysL x ps fr to_).length c) ∧ Sl intCell 1 w' w'.heap.size A (daysL x ps fr to_) ∧ (A = none → c = 0) ∧ Below w.heap.size w w' := by
  have hlen := hr.len
  have HOF := Lib.hid (fun day (h1 : 0 ≤ day) (h2 : day ≤ 1000000) W => rof_any x day W hx h1 h2)
  have HAL := Lib.hid (fun day (h1 : 0 ≤ day) (h2 : day ≤ 1000000) W (hW : Below w.heap.size w W) => rallowed_any x A2 c2 ps day W hx h1 h2 hv ((hcx.below hW).more hW.size) ((hr.below hW).more hW.size))
  obtain ⟨n, hn⟩ : ∃ n : Nat, n = (to_ + 1 - fr).toNat := ⟨_, rfl⟩
  have HN := Lib.hid hn
  have hnI : (n : Int) = to_ + 1 - fr := by omega
  have HSU := Lib.hid (daysN_succ x ps fr)
  have HDL := Lib.hid (daysN_len x ps fr)
  have HD : Hid (daysL x ps fr to_ = daysN x ps fr n) := (by rw [hn]; rfl : daysL x ps fr to_ = _)
  have HNI := Lib.hid hnI
  clear hr hv hx hn hcx hnI
  obtain ⟨i0, hi, iz0, iz1, iz2⟩ := info_parts infoInt
  obtain ⟨A, c, l, ⟨e, b, u⟩, ⟨d, p, f, m, y, s, k⟩⟩ := x
  simp only [Alm.cells] at HOF HAL ⊢
  go_enter Try.func24, Try.ntmps24
  go_upto_region 1 with fail
  refine gen_w (fun W => Blk W w.heap.size #[.slice A l.length c, .int .i64 e, .int .i64 b, .int .i64 u, .int .i64 d, .int .i64 p, .int .i64 f, .int .i64 m, .int .i64 y, .int .i64 s, .int .i64 k] 28 ∧ Below w.heap.size w W) ⟨Blk.at_ rfl, by (repeat (first | exact Below.refl _ _ | assumption | (refine Below.alloc ?_ (by first | omega | (simp; omega) | (simp; done)) _) | (refine Below.setCell ?_ (by first | omega | (simp; omega) | (simp; done)) _) | (refine Below.drew ?_) | (refine belowN ?_ _) | (refine Below.trans ?_ (Below.mono ‹Below _ _ _› (by first | omega | (simp; omega) | (simp; done))))))⟩ ?_
  rintro V0 ⟨ga, hw⟩
  have hV0 : w.heap.size < V0.heap.size := ga.lt
  go_wp2_with fail
  go_loopw [9, 10] (fun pl i wr => DyRel ⟨A, c, l, ⟨e, b, u⟩, ⟨d, p, f, m, y, s, k⟩⟩ ps fr w n pl i wr) (fun _ i _ => (to_ + 1 - intOf i).toNat)
  case atStart =>
    refine ⟨0, _, _, by omega, by simp, rfl, ?_, hw.alloc hw.size _, ga.alloc _⟩
    exact World.ownsRow_made (e := 3) (size := 1) V0 #[] 0 (base := w.heap.size + 1) (by omega) (by simp) (by simp)
  case round =>
    clear hw ga hV0
    obtain ⟨q, Ap, cp, hq, rfl, rfl, HOW, hbw, ga⟩ := hrel
    have hw := hbw.out
    clear hbw
    have hdl := HDL.out q
    by_cases hlt : q < n
    · have hlt2 : fr + (q : Int) ≤ to_ := by have := HNI.out; omega
      have t1 : decide (fr + (q : Int) ≤ to_) = true := by simpa using hlt2
      have HO := Lib.hid (HOF.out (fr + q) (by omega) (by omega))
      have HA := Lib.hid (fun W (hW : Below wr.heap.size wr W) => HAL.out (fr + q) (by omega) (by omega) W (bl2 hw hW))
      have HS := Lib.hid (HSU.out q)
      obtain ⟨av, hav⟩ : ∃ v, v = allB ⟨A, c, l, ⟨e, b, u⟩, ⟨d, p, f, m, y, s, k⟩⟩ ps (fr + q) := ⟨_, rfl⟩
      rw [← hav] at HA HS
      obtain ⟨L, hL⟩ : ∃ L, L = daysN ⟨A, c, l, ⟨e, b, u⟩, ⟨d, p, f, m, y, s, k⟩⟩ ps fr q := ⟨_, rfl⟩
      rw [← hL] at HOW HS hdl ⊢
      have ga' : Blk wr w.heap.size #[.slice A l.length c, .int .i64 e, .int .i64 b, .int .i64 u, .int .i64 d, .int .i64 p, .int .i64 f, .int .i64 m, .int .i64 y, .int .i64 s, .int .i64 k] 28 := ga
      clear ga hav hL
      have ga := ga'
      clear ga'
      have z0 := ga.cell 0; have z1 := ga.cell 1; have z2 := ga.cell 2; have z3 := ga.cell 3; have z4 := ga.cell 4; have z5 := ga.cell 5; have z6 := ga.cell 6; have z7 := ga.cell 7; have z8 := ga.cell 8; have z9 := ga.cell 9; have z10 := ga.cell 10
      simp at z0 z1 z2 z3 z4 z5 z6 z7 z8 z9 z10
      have v1 : IntKind.i64.wrap (fr + (q : Int) + 1) = fr + (q : Int) + 1 := IntWalk.i64_in _ ⟨by omega, by omega⟩
      go_upto_region 5 with fail
      (refine wp_region_ext (by kernel_rfl) (by kernel_rfl) ?_; (repeat (go_big_quiet_step((first | (go_at_call 40; with_reducible exact Calls.ext_of (HO.out _)) | (go_at_call 66; with_reducible exact Calls.ext_of (HA.out _ (ext_below ⟨_, rfl⟩))))))); with_reducible refine wpQuiet_nil ?_; intro w1 hw1; have hb1 := ext_below hw1; clear hw1)
      have HBW : Hid (Below w.heap.size w w1) := (bl2 hw hb1 : Below w.heap.size w w1)
      have HGA : Hid (Blk w1 w.heap.size #[.slice A l.length c, .int .i64 e, .int .i64 b, .int .i64 u, .int .i64 d, .int .i64 p, .int .i64 f, .int .i64 m, .int .i64 y, .int .i64 s, .int .i64 k] 28) := (ga.below hb1 ga.lt : Blk w1 w.heap.size #[.slice A l.length c, .int .i64 e, .int .i64 b, .int .i64 u, .int .i64 d, .int .i64 p, .int .i64 f, .int .i64 m, .int .i64 y, .int .i64 s, .int .i64 k] 28)
      have HO1 : Hid (w1.ownsRow (w.heap.size + 1) 3 1 (.slice Ap L.length cp) L.length (L.map (Value.int .i64))) := HOW.out.kept (grown_none hb1) (by cases h : (Value.slice Ap L.length cp).ownBlock <;> simp)
      have hV1 : w.heap.size < w1.heap.size := HGA.out.lt
      clear hw hb1 ga z0 z1 z2 z3 z4 z5 z6 z7 z8 z9 z10 HO HA HOW
      cases av with
      | false =>
        have HS2 : Hid (daysN ⟨A, c, l, ⟨e, b, u⟩, ⟨d, p, f, m, y, s, k⟩⟩ ps fr (q + 1) = L) := (by rw [HS.out]; simp : _ = L)
        go_wp2_with fail
        go_roundw
        case rel => exact ⟨q + 1, Ap, cp, by omega, by rw [show fr + ((q + 1 : Nat) : Int) = fr + (q : Int) + 1 by omega], by rw [HS2.out], by rw [HS2.out]; exact HO1, HBW, HGA.out⟩
        case measure => simp only [intOf]; omega
      | true =>
        have HS2 : Hid (daysN ⟨A, c, l, ⟨e, b, u⟩, ⟨d, p, f, m, y, s, k⟩⟩ ps fr (q + 1) = L ++ [fr + (q : Int)]) := (by rw [HS.out]; simp : _ = _)
        obtain ⟨dy, hdy⟩ : ∃ z, z = fr + (q : Int) := ⟨_, rfl⟩
        have HDY := Lib.hid hdy
        rw [← hdy] at HS2 v1 ⊢
        clear hdy
        go_wp2_with (at_builtin; refine wpList_append_own _ rfl _ _ 38 rfl (w.heap.size + 1) 3 i0 (.int .i64 0) 1 8 uInts hi iz0 iz1 iz2 rfl (by decide) _ _ _ rfl (HO1.out.alloc _) ⟨w1.heap.size, 0, none⟩ 1 1 [.int .i64 dy] rfl rfl (cell_one_new _ _ _) (by simp [Value.oneCell']) (by unfold maxLen; omega) (by omega) (by simp; omega) ?_; intro v' w2 hown2 hgrow _; refine Hid.out ?_; obtain ⟨Ap', cp', rfl⟩ := own_slice hown2; have HO2 := Lib.hid hown2; have HB2 : Hid (Below w.heap.size w w2) := (HBW.out.alloc HBW.out.size _).grown hgrow (by have := HBW.out.size; simp; omega) (fun g hg => by have := (HO1.out.lt g hg).1; omega); have HG2 : Hid (Blk w2 w.heap.size #[.slice A l.length c, .int .i64 e, .int .i64 b, .int .i64 u, .int .i64 d, .int .i64 p, .int .i64 f, .int .i64 m, .int .i64 y, .int .i64 s, .int .i64 k] 28) := (HGA.out.alloc _).grown hgrow (fun hg => by have := (HO1.out.lt _ hg.symm).1; omega); clear hown2 hgrow; refine Lib.hid ?_)
        go_roundw
        case rel =>
          refine ⟨q + 1, Ap', cp', by omega, by rw [show fr + ((q + 1 : Nat) : Int) = fr + (q : Int) + 1 by omega, ← HDY.out], by rw [HS2.out]; simp, ?_, HB2, HG2.out⟩
          have h2 := HO2.out
          rw [HS2.out]
          show World.ownsRow _ _ _ _ _ _ _
          rw [List.length_append, List.length_singleton, List.map_append]
          exact h2
        case measure => have := HDY.out; simp only [intOf]; omega
    · obtain rfl : q = n := by omega
      have t1 : decide (fr + (q : Int) ≤ to_) = false := by have := HNI.out; simp; omega
      obtain ⟨A9, c9, e9, hs9, hz9⟩ := sl_of_ownN (f := intCell) (l := daysN ⟨A, c, l, ⟨e, b, u⟩, ⟨d, p, f, m, y, s, k⟩⟩ ps fr q) (by rw [flat_int]; exact HOW.out)
      have e9' : Ap = A9 ∧ cp = c9 := by simpa using e9
      obtain ⟨rfl, rfl⟩ := e9'
      have HS9 := Lib.hid hs9; have HZ9 := Lib.hid hz9
      clear HOW e9 hs9 hz9
      go_wp2_with fail
      go_ret
      exact ⟨Ap, cp, by rw [HD.out]; rfl, by rw [HD.out]; exact HS9.out, HZ9.out, hw⟩
end Go.Proofs.Ytfbnllmmoaialaa
namespace Go.Proofs.Ytfbnllmmoaialaa
open Go.RowKit

theorem countV {x : Alm} {rs : List DRl} {fr to_ n E : Int} (h : countR x rs fr to_ = (n, E)) (hl : x.cycles.length ≤ 1000000) (A : Option Addr) (c : Nat) (A3 : Option Addr) (k3 : Nat) (l' : List DRl) (W : World) (hs : Sl Cyc.cells 2 W W.heap.size A x.cycles) (hr : RlsAt W W.heap.size A3 l') (hpl : l'.map DRl.pl = rs.map DRl.pl) :
    Calls Try.prog 54 #[.agg (Alm.cells ⟨A, c, x.cycles, x.sol, x.lun⟩).toArray, .slice A3 l'.length k3, .int .i64 fr, .int .i64 to_] W fun e w' => e = .returned (.tuple #[.int .i64 n, .int .i64 E]) ∧ Below W.heap.size W w' := by
  have h1 := countF_any (x.at_ A c) A3 k3 l' fr to_ W hl hs hr
  rw [countR_cong hpl, h] at h1
  exact h1
theorem append_rls {W w5 : World} {base : Nat} {A3 : Option Addr} {q3 gg cap : Nat} {l' : List DRl} {v : Bool} (hown : W.ownsRow base 83 2 (.slice A3 l'.length q3) l'.length (flat DRl.cells l')) (hrow : ∀ r ∈ l', RowD W r)
    (hown5 : w5.ownsRow base 83 2 (.slice (some ⟨gg, 0, none⟩) (l'.length + 1) cap) (l'.length + 1) (flat DRl.cells l' ++ [.slice none 0 0, .bool v])) (hgrow : W.grownBy w5 (Value.slice A3 l'.length q3).ownBlock) (hl : l'.length ≤ 100) : RlsAt w5 w5.heap.size (some ⟨gg, 0, none⟩) (l' ++ [lastR v]) := by
  have e1 : flat DRl.cells (l' ++ [lastR v]) = flat DRl.cells l' ++ [.slice none 0 0, .bool v] := by simp [flat, DRl.cells]
  have e2 : (l' ++ [lastR v]).length = l'.length + 1 := by simp
  have h5 : w5.ownsRow base 83 2 (.slice (some ⟨gg, 0, none⟩) (l' ++ [lastR v]).length cap) (l' ++ [lastR v]).length (flat DRl.cells (l' ++ [lastR v])) := by rw [e1, e2]; exact hown5
  obtain ⟨A, c, e, hs⟩ := Sl.of_own h5
  have e3 : some (⟨gg, 0, none⟩ : Addr) = A ∧ cap = c := by simpa using e
  refine ⟨by rw [e2]; omega, by rw [e3.1]; exact hs, fun r hr => ?_⟩
  rcases List.mem_append.1 hr with h | h
  · exact ((hrow r h).grown hgrow fun v' ⟨n', xs', h'⟩ => ownsRow_apart h' hown (by decide)).rul
  · rw [List.mem_singleton.1 h]
    exact ⟨by simp, fun t ht => by simp at ht, sl_nil⟩
theorem countL {x : Alm} {rs : List DRl} {fr to_ n E : Int} {v : Bool} (h : countR x (rs ++ [lastR v]) fr to_ = (n, E)) (hl : x.cycles.length ≤ 1000000) (A : Option Addr) (c : Nat) (gg cap : Nat) (l' : List DRl) (W : World) (hs : Sl Cyc.cells 2 W W.heap.size A x.cycles) (hr : RlsAt W W.heap.size (some ⟨gg, 0, none⟩) (l' ++ [lastR v])) (hpl : l'.map DRl.pl = rs.map DRl.pl) :
    Calls Try.prog 54 #[.agg (Alm.cells ⟨A, c, x.cycles, x.sol, x.lun⟩).toArray, .slice (some ⟨gg, 0, none⟩) (l'.length + 1) cap, .int .i64 fr, .int .i64 to_] W fun e w' => e = .returned (.tuple #[.int .i64 n, .int .i64 E]) ∧ Below W.heap.size W w' := by
  have h1 := countV h hl A c (some ⟨gg, 0, none⟩) cap (l' ++ [lastR v]) W hs hr (by rw [List.map_append, List.map_append, hpl])
  rw [List.length_append, List.length_singleton] at h1
  exact h1
end Go.Proofs.Ytfbnllmmoaialaa
namespace Go.Proofs.Ytfbnllmmoaialaa
open Go.RowKit

theorem commonV {x : Alm} {ps : List DPs} {fr to_ n E : Int} (h : comR x ps fr to_ = (n, E)) (hl : x.cycles.length ≤ 1000000) (A : Option Addr) (c : Nat) (A3 : Option Addr) (k3 N : Nat) (l' : List DPs) (W : World) (hs : Sl Cyc.cells 2 W W.heap.size A x.cycles) (hr : PsA W W.heap.size A3 l') (hpl : l'.map DPs.pl = ps.map DPs.pl) (hN : l'.length = N) :
    Calls Try.prog 52 #[.agg (Alm.cells ⟨A, c, x.cycles, x.sol, x.lun⟩).toArray, .slice A3 N k3, .int .i64 fr, .int .i64 to_] W fun e w' => e = .returned (.tuple #[.int .i64 n, .int .i64 E]) ∧ Below W.heap.size W w' := by
  have h1 := common_any (x.at_ A c) A3 k3 l' fr to_ W hl hs hr
  rw [comR_cong hpl, h, hN] at h1
  exact h1
theorem persons_slice (A : Option Addr) (len c : Nat) (W : World) (h : 1 ≤ len) : (Instr.slice 49 (.slice A len c) (some (.int .i64 1)) none none).run Try.prog W = .ok (sliced A 1 len c 1) W := by
  rw [run_slice_l W 49 A len c (by kernel_rfl) .i64 1 (by omega) (by omega)]
  have hs : (sizeOf (Try.prog.elem 49)).run Try.prog W = .ok 1 W := by kernel_rfl
  rw [hs]
  rfl
/-- a slice from its k-th element on -/
theorem Sl.from_ {α : Type} {f : α → List Value} {size : Nat} {w : World} {B : Nat} {A : Option Addr} {l : List α} (h : Sl f size w B A l) (hf : ∀ x, (f x).length = size) (k : Nat) (c : Nat) (hc : l.length ≤ c) :
    ∃ A', sliced A k l.length c size = .slice A' (l.length - k) (c - k) ∧ Sl f size w B A' (l.drop k) := by
  refine ⟨_, rfl, ?_⟩
  refine ⟨flat_length f size hf _, fun hn => ?_⟩
  simp only [List.length_drop] at hn
  obtain ⟨b, o, e, hb, hcell⟩ := h.2 (by omega)
  subst e
  rw [if_neg (by omega)]
  refine ⟨b, o + k * size, by simp [Go.WideShapes.add_plain], hb, fun j u hu => ?_⟩
  rw [Nat.add_assoc]
  refine hcell _ _ ?_
  have e : flat f l = flat f (l.take k) ++ flat f (l.drop k) := by
    rw [flat, flat, flat, ← List.flatMap_append, List.take_append_drop]
  have hl : (flat f (l.take k)).length = k * size := by rw [flat_length f size hf, List.length_take, Nat.min_eq_left (by omega)]
  rw [e, List.getElem?_append_right (by rw [hl]; omega), hl, show k * size + j - k * size = j by omega]
  exact hu
theorem persons_cell {w : World} {B : Nat} {A : Option Addr} {ps : List DPs} (h : Sl DPs.cells 1 w B A ps) (hn : 0 < ps.length) : ∃ b o, A = some ⟨b, o, none⟩ ∧ b < B ∧ ∀ j (hj : j < ps.length), w.cell? ⟨b, o + j, none⟩ = some (.slice ps[j].a ps[j].rules.length ps[j].c) := by
  obtain ⟨b, o, e, hb, hc⟩ := h.2 hn
  refine ⟨b, o, e, hb, fun j hj => ?_⟩
  obtain ⟨b', o', e', hb', hc'⟩ := h.at_ (k := j) (fun _ => rfl) hj
  rw [e] at e'
  cases e'
  have := hc' 0 _ rfl
  simpa using this
theorem commonT {x : Alm} {ps l' : List DPs} {q0 : DPs} {fr to_ n E : Int} (h : comR x (ps ++ [q0]) fr to_ = (n, E)) (hlx : x.cycles.length ≤ 1000000) (hpl : l'.map DPs.pl = ps.map DPs.pl) (hl : l'.length ≤ 9) (A' : Option Addr) (c' gg cap5 : Nat) (A3 : Option Addr) (q3 : Nat) (l3 : List DRl) (W : World) (base : Nat) (ho : W.ownsRow 0 55 2 (.slice A' x.cycles.length c') x.cycles.length (flat Cyc.cells x.cycles)) (hp : PsO W base (.slice (some ⟨gg, 0, none⟩) (l' ++ [(⟨A3, q3, l3⟩ : DPs)]).length cap5) (l' ++ [⟨A3, q3, l3⟩])) (hq : l3.map DRl.pl = q0.rules.map DRl.pl) :
    Calls Try.prog 52 #[.agg (Alm.cells ⟨A', c', x.cycles, x.sol, x.lun⟩).toArray, .slice (some ⟨gg, 0, none⟩) (l'.length + 1) cap5, .int .i64 fr, .int .i64 to_] W fun e w' => e = .returned (.tuple #[.int .i64 n, .int .i64 E]) ∧ Below W.heap.size W w' := by
  obtain ⟨A9, c9, e9, hs9⟩ := Sl.of_own ho
  have e9' : A' = A9 ∧ c' = c9 := by simpa using e9
  obtain ⟨rfl, rfl⟩ := e9'
  exact commonV h hlx A' c' (some ⟨gg, 0, none⟩) cap5 (l'.length + 1) (l' ++ [⟨A3, q3, l3⟩]) W hs9 (hp.psA (by simp; omega)) (by rw [List.map_append, List.map_append, hpl]; show _ ++ [l3.map DRl.pl] = _ ++ [q0.rules.map DRl.pl]; rw [hq]) (by simp)
theorem countP {x : Alm} {rs : List DRl} {fr to_ n E : Int} {v : Bool} (h : countR x (rs ++ [lastR v]) fr to_ = (n, E)) (hl : x.cycles.length ≤ 1000000) (A : Option Addr) (c : Nat) (gg cap : Nat) (l' : List DRl) (W : World) (ho : W.ownsRow 0 55 2 (.slice A x.cycles.length c) x.cycles.length (flat Cyc.cells x.cycles)) (hr : RlsAt W W.heap.size (some ⟨gg, 0, none⟩) (l' ++ [lastR v])) (hpl : l'.map DRl.pl = rs.map DRl.pl) :
    Calls Try.prog 54 #[.agg (Alm.cells ⟨A, c, x.cycles, x.sol, x.lun⟩).toArray, .slice (some ⟨gg, 0, none⟩) (l'.length + 1) cap, .int .i64 fr, .int .i64 to_] W fun e w' => e = .returned (.tuple #[.int .i64 n, .int .i64 E]) ∧ Below W.heap.size W w' := by
  obtain ⟨A9, c9, e9, hs9⟩ := Sl.of_own ho
  have e9' : A = A9 ∧ c = c9 := by simpa using e9
  obtain ⟨rfl, rfl⟩ := e9'
  exact countL h hl A c gg cap l' W hs9 hr hpl
theorem PsO.step {W Wc w1 : World} {base : Nat} {v : Value} {ps : List DPs} (h : PsO W base v ps) (h1 : Below W.heap.size W Wc) (hb : Below Wc.heap.size Wc w1) : PsO w1 base v ps := h.below (bl2 h1 hb)
theorem RowP.step {W Wc w1 : World} {q : DPs} (h : RowP W q) (h1 : Below W.heap.size W Wc) (hb : Below Wc.heap.size Wc w1) : RowP w1 q := h.below (bl2 h1 hb)
theorem own_step0 {W w1 : World} {base n size : Nat} {e : TypeId} {v : Value} {xs : List Value} (h : W.ownsRow base e size v n xs) (h1 : Below W.heap.size W w1) : w1.ownsRow base e size v n xs := h.kept (grown_none h1) (by cases hv : v.ownBlock <;> simp)
theorem own_step {W Wc w1 : World} {base n size : Nat} {e : TypeId} {v : Value} {xs : List Value} (h : W.ownsRow base e size v n xs) (h1 : Below W.heap.size W Wc) (hb : Below Wc.heap.size Wc w1) : w1.ownsRow base e size v n xs := own_step0 h (bl2 h1 hb)
theorem Blk.step0 {W w1 : World} {b : Nat} {cs : Array Value} {t : TypeId} (g : Blk W b cs t) (h1 : Below W.heap.size W w1) : Blk w1 b cs t := g.below h1 g.lt
theorem Blk.step {W Wc w1 : World} {b : Nat} {cs : Array Value} {t : TypeId} (g : Blk W b cs t) (h1 : Below W.heap.size W Wc) (hb : Below Wc.heap.size Wc w1) : Blk w1 b cs t := g.step0 (bl2 h1 hb)
theorem PsO.cap {W : World} {base : Nat} {v : Value} {ps : List DPs} (h : PsO W base v ps) (hn : 0 < ps.length) : ∃ g cap, v = .slice (some ⟨g, 0, none⟩) ps.length cap ∧ ps.length ≤ cap ∧ base ≤ g ∧ g < W.heap.size := by
  rcases h.own.2 with ⟨_, h2⟩ | ⟨g, cap, cur, h1, h2, h3, h4, _⟩
  · omega
  · exact ⟨g, cap, h1, h4, h2, (Array.getElem?_eq_some_iff.1 h3).1⟩
end Go.Proofs.Ytfbnllmmoaialaa
namespace Go.Proofs.Ytfbnllmmoaialaa
open Go.RowKit

set_option maxRecDepth 100000 in
set_option maxHeartbeats 4000000 in
theorem rtest_any (A : Option Addr) (c : Nat) (l : List Cyc) (e b u d p f m y s k : Int) (kd wh st fr to_ : Int) (w : World) (hl : l.length ≤ 8) (hc : ∀ x ∈ l, cycB x = true) (hs : 0 ≤ st ∧ st < 18446744073709551616) (hr : Sl Cyc.cells 2 w w.heap.size A l) :
    Calls Try.prog 89 #[.agg #[.slice A l.length c, .int .i64 e, .int .i64 b, .int .i64 u, .int .i64 d, .int .i64 p, .int .i64 f, .int .i64 m, .int .i64 y, .int .i64 s, .int .i64 k], .agg #[.int .i64 kd, .int .i64 wh, .int .u64 st, .int .i64 fr, .int .i64 to_]] w fun en w' => en = .returned (.bool (tstB l ⟨kd, wh, st, fr, to_⟩)) ∧ Below w.heap.size w w' := by
  have HR := Lib.hid hr; have HC := Lib.hid hc
  have HSB := Lib.hid hs
  clear hr hc hs
  obtain ⟨pl, hpl⟩ : ∃ v, v = ((wh == 0) && ((fr == 0) && (to_ == 0))) := ⟨_, rfl⟩
  have HPL := Lib.hid hpl
  clear hpl
  go_enter Try.func89, Try.ntmps89
  go_upto_region 1 with fail
  refine gen_w (fun W => Blk W w.heap.size #[.slice A l.length c, .int .i64 e, .int .i64 b, .int .i64 u, .int .i64 d, .int .i64 p, .int .i64 f, .int .i64 m, .int .i64 y, .int .i64 s, .int .i64 k] 28 ∧ Blk W (w.heap.size + 1) #[.int .i64 kd, .int .i64 wh, .int .u64 st, .int .i64 fr, .int .i64 to_] 126 ∧ Below w.heap.size w W) ⟨(Blk.at_ rfl).alloc _, Blk.at_ (by simp), by (repeat (first | exact Below.refl _ _ | assumption | (refine Below.alloc ?_ (by first | omega | (simp; omega) | (simp; done)) _) | (refine Below.setCell ?_ (by first | omega | (simp; omega) | (simp; done)) _) | (refine Below.drew ?_) | (refine belowN ?_ _) | (refine Below.trans ?_ (Below.mono ‹Below _ _ _› (by first | omega | (simp; omega) | (simp; done))))))⟩ ?_
  rintro V0 ⟨ga, gt, hw⟩
  (have t0 := gt.cell 0; have t1 := gt.cell 1; have t2 := gt.cell 2; have t3 := gt.cell 3; have t4 := gt.cell 4; simp at t0 t1 t2 t3 t4)
  (have z0 := ga.cell 0; simp at z0)
  go_cut [5] (fun s5 wx => s5 = .bool pl ∧ V0 = wx)
  case first =>
    have hpl := HPL.out
    clear HPL
    cases z1 : (wh == 0) with
    | false =>
      rw [z1] at hpl; simp at hpl; subst hpl
      go_wp2_with fail
      go_meet
      exact ⟨rfl, rfl⟩
    | true =>
      cases z2 : (fr == 0) with
      | false =>
        rw [z1, z2] at hpl; simp at hpl; subst hpl
        go_wp2_with fail
        go_meet
        exact ⟨rfl, rfl⟩
      | true =>
        cases z3 : (to_ == 0) with
        | false =>
          rw [z1, z2, z3] at hpl; simp at hpl; subst hpl
          go_wp2_with fail
          go_meet
          exact ⟨rfl, rfl⟩
        | true =>
          rw [z1, z2, z3] at hpl; simp at hpl; subst hpl
          go_wp2_with fail
          go_meet
          exact ⟨rfl, rfl⟩
  case rest =>
    obtain ⟨rfl, rfl⟩ := hcut
    by_cases k1 : kd = 1
    · subst k1
      go_upto_region 4 with fail
      cases hin : inB wh 0 ((l.length : Int) - 1) with
      | false =>
        have HIN := Lib.hid (fun W => rin_val hin W)
        have HT : Hid (tstB l ⟨1, wh, st, fr, to_⟩ = false) := (by simp [tstB, hin] : tstB l _ = false)
        clear hin
        have v0 : IntKind.i64.wrap ((l.length : Int) - 1) = (l.length : Int) - 1 := IntWalk.i64_in _ ⟨by omega, by omega⟩
        (refine wp_region_ext (by kernel_rfl) (by kernel_rfl) ?_; (repeat (go_big_quiet_step((go_at_call 65; with_reducible exact Calls.ext_same (HIN.out _))))); with_reducible refine wpQuiet_nil ?_; intro w1 hw1; have hb1 := ext_below hw1; clear hw1)
        have hw := bl2 hw hb1
        go_wp2_with fail
        go_ret
        exact ⟨ret_bool HT.out.symm, hw⟩
      | true =>
        obtain ⟨i0, i1⟩ := inB_iff.1 hin
        have HIN := Lib.hid (fun W => rin_val hin W)
        have v0 : IntKind.i64.wrap ((l.length : Int) - 1) = (l.length : Int) - 1 := IntWalk.i64_in _ ⟨by omega, by omega⟩
        obtain ⟨j, rfl⟩ := Int.eq_ofNat_of_zero_le i0
        have hj : j < l.length := by omega
        cases z2 : (fr == 0) with
        | false =>
          have HT : Hid (tstB l ⟨1, (j : Int), st, fr, to_⟩ = false) := (by simp [tstB, z2] : tstB l _ = false)
          clear hin
          (refine wp_region_ext (by kernel_rfl) (by kernel_rfl) ?_; (repeat (go_big_quiet_step((go_at_call 65; with_reducible exact Calls.ext_same (HIN.out _))))); with_reducible refine wpQuiet_nil ?_; intro w1 hw1; have hb1 := ext_below hw1; clear hw1)
          have hw := bl2 hw hb1
          go_wp2_with fail
          go_ret
          exact ⟨ret_bool HT.out.symm, hw⟩
        | true =>
          cases z3 : (to_ == 0) with
          | false =>
            have HT : Hid (tstB l ⟨1, (j : Int), st, fr, to_⟩ = false) := (by simp [tstB, z3] : tstB l _ = false)
            clear hin
            (refine wp_region_ext (by kernel_rfl) (by kernel_rfl) ?_; (repeat (go_big_quiet_step((go_at_call 65; with_reducible exact Calls.ext_same (HIN.out _))))); with_reducible refine wpQuiet_nil ?_; intro w1 hw1; have hb1 := ext_below hw1; clear hw1)
            have hw := bl2 hw hb1
            go_wp2_with fail
            go_ret
            exact ⟨ret_bool HT.out.symm, hw⟩
          | true =>
            obtain ⟨ab, ao, rfl, hblk, hcell⟩ := (HR.out.below hw).at_ (k := j) (fun _ => rfl) hj
            have hcy := HC.out _ (List.getElem_mem hj)
            have HT0 : Hid (tstB l ⟨1, (j : Int), st, fr, to_⟩ = subB st (18446744073709551615 / 2 ^ (64 - l[j].l).toNat)) := (by
              simp only [tstB, hin, z2, z3, Int.toNat_natCast, List.getElem?_eq_getElem hj, if_true, Bool.true_and, Bool.and_true] : tstB l _ = _)
            obtain ⟨q, hq⟩ : ∃ q, q = l[j] := ⟨_, rfl⟩
            rw [← hq] at hcell hcy HT0
            obtain ⟨ql, qs⟩ := q
            obtain ⟨⟨l1, l2⟩, -⟩ := cycB_iff.1 hcy
            simp only at l1 l2 HT0
            have e0 : V0.cell? ⟨ab, ao + j * 2, none⟩ = some (.int .i64 ql) := hcell 0 _ rfl
            have HSET := Lib.hid (fun W => rset_any st 0 (ql - 1) W HSB.out)
            have HT : Hid (tstB l ⟨1, (j : Int), st, fr, to_⟩ = setB st 0 (ql - 1)) := (by rw [HT0.out, subL HSB.out l1 l2] : tstB l _ = _)
            obtain ⟨v, hv⟩ : ∃ v, v = setB st 0 (ql - 1) := ⟨_, rfl⟩
            rw [← hv] at HSET HT
            have v1 : IntKind.i64.wrap (ql - 1) = ql - 1 := IntWalk.i64_in _ ⟨by omega, by omega⟩
            have j0 : (0 : Int) ≤ (j : Int) := by omega
            have j1 : (j : Int) < (l.length : Int) := by omega
            clear hcell hcy hq hv hin HT0
            (refine wp_region_ext (by kernel_rfl) (by kernel_rfl) ?_; (repeat (go_big_quiet_step((first | (go_at_call 65; with_reducible exact Calls.ext_same (HIN.out _)) | (go_at_call 117; with_reducible exact Calls.ext_of (HSET.out _)))))); with_reducible refine wpQuiet_nil ?_; intro w1 hw1; have hb1 := ext_below hw1; clear hw1)
            have hw := bl2 hw hb1
            go_wp2_with fail
            go_ret
            exact ⟨ret_bool HT.out.symm, hw⟩
    · have n1 : (kd == 1) = false := by simpa using k1
      by_cases k2 : kd = 2 ∨ kd = 4
      · have HSET := Lib.hid (fun W => rset_any st 1 12 W HSB.out)
        obtain ⟨v, hv⟩ : ∃ v, v = setB st 1 12 := ⟨_, rfl⟩
        rw [← hv] at HSET
        have HT0 : Hid (tstB l ⟨kd, wh, st, fr, to_⟩ = (pl && v)) := (by
          rw [HPL.out, hv, ← sub12 HSB.out]; simp only [tstB, if_neg k1, if_pos k2, Bool.and_assoc] : tstB l _ = _)
        clear hv
        cases pl with
        | false =>
          have HT : Hid (tstB l ⟨kd, wh, st, fr, to_⟩ = false) := HT0
          rcases k2 with rfl | rfl <;> (go_wp2_with (go_at_call 117; (with_reducible refine (HSET.out _).mono ?_); rintro _ W3 ⟨rfl, hb3⟩; have hw := bl2 hw hb3); go_ret; exact ⟨ret_bool HT.out.symm, hw⟩)
        | true =>
          have HT : Hid (tstB l ⟨kd, wh, st, fr, to_⟩ = v) := HT0
          rcases k2 with rfl | rfl <;> (go_wp2_with (go_at_call 117; (with_reducible refine (HSET.out _).mono ?_); rintro _ W3 ⟨rfl, hb3⟩; have hw := bl2 hw hb3); go_ret; exact ⟨ret_bool HT.out.symm, hw⟩)
      · have n2 : (kd == 2) = false := by simp; omega
        have n4 : (kd == 4) = false := by simp; omega
        by_cases k3 : kd = 3 ∨ kd = 5
        · have HSET := Lib.hid (fun W => rset_any st 1 31 W HSB.out)
          obtain ⟨v, hv⟩ : ∃ v, v = setB st 1 31 := ⟨_, rfl⟩
          rw [← hv] at HSET
          have HT0 : Hid (tstB l ⟨kd, wh, st, fr, to_⟩ = (pl && v)) := (by
            rw [HPL.out, hv, ← sub31 HSB.out]; simp only [tstB, if_neg k1, if_neg k2, if_pos k3, Bool.and_assoc] : tstB l _ = _)
          clear hv
          cases pl with
          | false =>
            have HT : Hid (tstB l ⟨kd, wh, st, fr, to_⟩ = false) := HT0
            rcases k3 with rfl | rfl <;> (go_wp2_with (go_at_call 117; (with_reducible refine (HSET.out _).mono ?_); rintro _ W3 ⟨rfl, hb3⟩; have hw := bl2 hw hb3); go_ret; exact ⟨ret_bool HT.out.symm, hw⟩)
          | true =>
            have HT : Hid (tstB l ⟨kd, wh, st, fr, to_⟩ = v) := HT0
            rcases k3 with rfl | rfl <;> (go_wp2_with (go_at_call 117; (with_reducible refine (HSET.out _).mono ?_); rintro _ W3 ⟨rfl, hb3⟩; have hw := bl2 hw hb3); go_ret; exact ⟨ret_bool HT.out.symm, hw⟩)
        · have n3 : (kd == 3) = false := by simp; omega
          have n5 : (kd == 5) = false := by simp; omega
          by_cases k6 : kd = 6
          · subst k6
            cases hv : (st == 0) with
            | false =>
              have HT : Hid (tstB l ⟨6, wh, st, fr, to_⟩ = false) := (by simp [tstB, sub0 HSB.out, hv] : tstB l _ = _)
              cases pl <;> (go_wp2_with (go_at_call 117; (with_reducible refine (HSET.out _).mono ?_); rintro _ W3 ⟨rfl, hb3⟩; have hw := bl2 hw hb3); go_ret; exact ⟨ret_bool HT.out.symm, hw⟩)
            | true =>
              have HT : Hid (tstB l ⟨6, wh, st, fr, to_⟩ = pl) := (by rw [HPL.out]; simp [tstB, sub0 HSB.out, hv, Bool.and_assoc] : tstB l _ = _)
              cases pl <;> (go_wp2_with (go_at_call 117; (with_reducible refine (HSET.out _).mono ?_); rintro _ W3 ⟨rfl, hb3⟩; have hw := bl2 hw hb3); go_ret; exact ⟨ret_bool HT.out.symm, hw⟩)
          · have n6 : (kd == 6) = false := by simpa using k6
            by_cases k7 : kd = 7
            · subst k7
              cases z1 : (wh == 0) with
              | false =>
                have HT : Hid (tstB l ⟨7, wh, st, fr, to_⟩ = false) := (by simp [tstB, z1] : tstB l _ = _)
                (go_wp2_with (go_at_call 117; (with_reducible refine (HSET.out _).mono ?_); rintro _ W3 ⟨rfl, hb3⟩; have hw := bl2 hw hb3); go_ret; exact ⟨ret_bool HT.out.symm, hw⟩)
              | true =>
                cases z2 : (st == 0) with
                | false =>
                  have HT : Hid (tstB l ⟨7, wh, st, fr, to_⟩ = false) := (by simp [tstB, sub0 HSB.out, z2] : tstB l _ = _)
                  (go_wp2_with (go_at_call 117; (with_reducible refine (HSET.out _).mono ?_); rintro _ W3 ⟨rfl, hb3⟩; have hw := bl2 hw hb3); go_ret; exact ⟨ret_bool HT.out.symm, hw⟩)
                | true =>
                  cases h1 : inB fr 0 1000000 with
                  | false =>
                    have HDA := Lib.hid (fun W => rday_val h1 W)
                    have HT : Hid (tstB l ⟨7, wh, st, fr, to_⟩ = false) := (by simp [tstB, h1] : tstB l _ = _)
                    clear h1
                    go_wp2_with (first | (go_at_call 28; (with_reducible refine (HDA.out _).mono ?_); rintro _ _ ⟨rfl, rfl⟩) | (go_at_call 28; (with_reducible refine (HDB.out _).mono ?_); rintro _ _ ⟨rfl, rfl⟩))
                    go_ret
                    exact ⟨ret_bool HT.out.symm, hw⟩
                  | true =>
                    have HDA := Lib.hid (fun W => rday_val h1 W)
                    have HDB := Lib.hid (fun W => rday_any to_ W)
                    obtain ⟨v, hv⟩ : ∃ v, v = inB to_ 0 1000000 := ⟨_, rfl⟩
                    rw [← hv] at HDB
                    have HT : Hid (tstB l ⟨7, wh, st, fr, to_⟩ = v) := (by simp [tstB, h1, z1, sub0 HSB.out, z2, hv] : tstB l _ = _)
                    clear h1 hv
                    go_wp2_with (first | (go_at_call 28; (with_reducible refine (HDA.out _).mono ?_); rintro _ _ ⟨rfl, rfl⟩) | (go_at_call 28; (with_reducible refine (HDB.out _).mono ?_); rintro _ _ ⟨rfl, rfl⟩))
                    go_ret
                    exact ⟨ret_bool HT.out.symm, hw⟩
            · have n7 : (kd == 7) = false := by simpa using k7
              have HT : Hid (tstB l ⟨kd, wh, st, fr, to_⟩ = false) := (by simp only [tstB, if_neg k1, if_neg k2, if_neg k3, if_neg k6, if_neg k7] : tstB l _ = _)
              clear k1 k2 k3 k6 k7
              go_wp2_with fail
              go_ret
              exact ⟨ret_bool HT.out.symm, hw⟩
end Go.Proofs.Ytfbnllmmoaialaa

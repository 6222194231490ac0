/- almanac: the law AlmanacNext, words. -/
import Derived.Test.YtfbnllmmoaialaaZ29Bf
import Derived.Test.YtfbnllmmoaialaaZ28Pi
import Derived.Deep.RegionHeldLaw
import Derived.Deep.AppendLies
namespace Go.Proofs.Ytfbnllmmoaialaa
open Go.RowKit

theorem countV {x : Alm} {rs : List DRl} {fr to_ n E : Int} (h : countR x rs fr to_ = (n, E)) (hl : x.cycles.length ≤ 1000000) (A : Option Addr) (c : Nat) (A3 : Option Addr) (k3 : Nat) (l' : List DRl) (W : World) (hs : Sl Cyc.cells 2 W W.heap.size A x.cycles) (hr : RlsAt W W.heap.size A3 l') (hpl : l'.map DRl.pl = rs.map DRl.pl) :
    Calls Try.prog 54 #[.agg (Alm.cells ⟨A, c, x.cycles, x.sol, x.lun⟩).toArray, .slice A3 l'.length k3, .int .i64 fr, .int .i64 to_] W fun e w' => e = .returned (.tuple #[.int .i64 n, .int .i64 E]) ∧ Below W.heap.size W w' := by
  have h1 := countF_any (x.at_ A c) A3 k3 l' fr to_ W hl hs hr
  rw [countR_cong hpl, h] at h1
  exact h1
theorem append_rls {W w5 : World} {base : Nat} {A3 : Option Addr} {q3 gg cap : Nat} {l' : List DRl} {v : Bool} (hown : W.ownsRow base 83 2 (.slice A3 l'.length q3) l'.length (flat DRl.cells l')) (hrow : ∀ r ∈ l', RowD W r)
    (hown5 : w5.ownsRow base 83 2 (.slice (some ⟨gg, 0, none⟩) (l'.length + 1) cap) (l'.length + 1) (flat DRl.cells l' ++ [.slice none 0 0, .bool v])) (hgrow : W.grownBy w5 (Value.slice A3 l'.length q3).ownBlock) (hl : l'.length ≤ 100) : RlsAt w5 w5.heap.size (some ⟨gg, 0, none⟩) (l' ++ [lastR v]) := by
  have e1 : flat DRl.cells (l' ++ [lastR v]) = flat DRl.cells l' ++ [.slice none 0 0, .bool v] := by simp [flat, DRl.cells]
  have e2 : (l' ++ [lastR v]).length = l'.length + 1 := by simp
  have h5 : w5.ownsRow base 83 2 (.slice (some ⟨gg, 0, none⟩) (l' ++ [lastR v]).length cap) (l' ++ [lastR v]).length (flat DRl.cells (l' ++ [lastR v])) := by rw [e1, e2]; exact hown5
  obtain ⟨A, c, e, hs⟩ := Sl.of_own h5
  have e3 : some (⟨gg, 0, none⟩ : Addr) = A ∧ cap = c := by simpa using e
  refine ⟨by rw [e2]; omega, by rw [e3.1]; exact hs, fun r hr => ?_⟩
  rcases List.mem_append.1 hr with h | h
  · exact ((hrow r h).grown hgrow fun v' ⟨n', xs', h'⟩ => ownsRow_apart h' hown (by decide)).rul
  · rw [List.mem_singleton.1 h]
    exact ⟨by simp, fun t ht => by simp at ht, sl_nil⟩
theorem countL {x : Alm} {rs : List DRl} {fr to_ n E : Int} {v : Bool} (h : countR x (rs ++ [lastR v]) fr to_ = (n, E)) (hl : x.cycles.length ≤ 1000000) (A : Option Addr) (c : Nat) (gg cap : Nat) (l' : List DRl) (W : World) (hs : Sl Cyc.cells 2 W W.heap.size A x.cycles) (hr : RlsAt W W.heap.size (some ⟨gg, 0, none⟩) (l' ++ [lastR v])) (hpl : l'.map DRl.pl = rs.map DRl.pl) :
    Calls Try.prog 54 #[.agg (Alm.cells ⟨A, c, x.cycles, x.sol, x.lun⟩).toArray, .slice (some ⟨gg, 0, none⟩) (l'.length + 1) cap, .int .i64 fr, .int .i64 to_] W fun e w' => e = .returned (.tuple #[.int .i64 n, .int .i64 E]) ∧ Below W.heap.size W w' := by
  have h1 := countV h hl A c (some ⟨gg, 0, none⟩) cap (l' ++ [lastR v]) W hs hr (by rw [List.map_append, List.map_append, hpl])
  rw [List.length_append, List.length_singleton] at h1
  exact h1
end Go.Proofs.Ytfbnllmmoaialaa
namespace Go.Proofs.Ytfbnllmmoaialaa
open Go.RowKit

theorem commonV {x : Alm} {ps : List DPs} {fr to_ n E : Int} (h : comR x ps fr to_ = (n, E)) (hl : x.cycles.length ≤ 1000000) (A : Option Addr) (c : Nat) (A3 : Option Addr) (k3 N : Nat) (l' : List DPs) (W : World) (hs : Sl Cyc.cells 2 W W.heap.size A x.cycles) (hr : PsA W W.heap.size A3 l') (hpl : l'.map DPs.pl = ps.map DPs.pl) (hN : l'.length = N) :
    Calls Try.prog 52 #[.agg (Alm.cells ⟨A, c, x.cycles, x.sol, x.lun⟩).toArray, .slice A3 N k3, .int .i64 fr, .int .i64 to_] W fun e w' => e = .returned (.tuple #[.int .i64 n, .int .i64 E]) ∧ Below W.heap.size W w' := by
  have h1 := common_any (x.at_ A c) A3 k3 l' fr to_ W hl hs hr
  rw [comR_cong hpl, h, hN] at h1
  exact h1
theorem persons_slice (A : Option Addr) (len c : Nat) (W : World) (h : 1 ≤ len) : (Instr.slice 49 (.slice A len c) (some (.int .i64 1)) none none).run Try.prog W = .ok (sliced A 1 len c 1) W := by
  rw [run_slice_l W 49 A len c (by kernel_rfl) .i64 1 (by omega) (by omega)]
  have hs : (sizeOf (Try.prog.elem 49)).run Try.prog W = .ok 1 W := by kernel_rfl
  rw [hs]
  rfl
/-- a slice from its k-th element on -/
theorem Sl.from_ {α : Type} {f : α → List Value} {size : Nat} {w : World} {B : Nat} {A : Option Addr} {l : List α} (h : Sl f size w B A l) (hf : ∀ x, (f x).length = size) (k : Nat) (c : Nat) (hc : l.length ≤ c) :
    ∃ A', sliced A k l.length c size = .slice A' (l.length - k) (c - k) ∧ Sl f size w B A' (l.drop k) := by
  refine ⟨_, rfl, ?_⟩
  refine ⟨flat_length f size hf _, fun hn => ?_⟩
  simp only [List.length_drop] at hn
  obtain ⟨b, o, e, hb, hcell⟩ := h.2 (by omega)
  subst e
  rw [if_neg (by omega)]
  refine ⟨b, o + k * size, by simp [Go.WideShapes.add_plain], hb, fun j u hu => ?_⟩
  rw [Nat.add_assoc]
  refine hcell _ _ ?_
  have e : flat f l = flat f (l.take k) ++ flat f (l.drop k) := by
    rw [flat, flat, flat, ← List.flatMap_append, List.take_append_drop]
  have hl : (flat f (l.take k)).length = k * size := by rw [flat_length f size hf, List.length_take, Nat.min_eq_left (by omega)]
  rw [e, List.getElem?_append_right (by rw [hl]; omega), hl, show k * size + j - k * size = j by omega]
  exact hu
theorem persons_cell {w : World} {B : Nat} {A : Option Addr} {ps : List DPs} (h : Sl DPs.cells 1 w B A ps) (hn : 0 < ps.length) : ∃ b o, A = some ⟨b, o, none⟩ ∧ b < B ∧ ∀ j (hj : j < ps.length), w.cell? ⟨b, o + j, none⟩ = some (.slice ps[j].a ps[j].rules.length ps[j].c) := by
  obtain ⟨b, o, e, hb, hc⟩ := h.2 hn
  refine ⟨b, o, e, hb, fun j hj => ?_⟩
  obtain ⟨b', o', e', hb', hc'⟩ := h.at_ (k := j) (fun _ => rfl) hj
  rw [e] at e'
  cases e'
  have := hc' 0 _ rfl
  simpa using this
theorem commonT {x : Alm} {ps l' : List DPs} {q0 : DPs} {fr to_ n E : Int} (h : comR x (ps ++ [q0]) fr to_ = (n, E)) (hlx : x.cycles.length ≤ 1000000) (hpl : l'.map DPs.pl = ps.map DPs.pl) (hl : l'.length ≤ 9) (A' : Option Addr) (c' gg cap5 : Nat) (A3 : Option Addr) (q3 : Nat) (l3 : List DRl) (W : World) (base : Nat) (ho : W.ownsRow 0 55 2 (.slice A' x.cycles.length c') x.cycles.length (flat Cyc.cells x.cycles)) (hp : PsO W base (.slice (some ⟨gg, 0, none⟩) (l' ++ [(⟨A3, q3, l3⟩ : DPs)]).length cap5) (l' ++ [⟨A3, q3, l3⟩])) (hq : l3.map DRl.pl = q0.rules.map DRl.pl) :
    Calls Try.prog 52 #[.agg (Alm.cells ⟨A', c', x.cycles, x.sol, x.lun⟩).toArray, .slice (some ⟨gg, 0, none⟩) (l'.length + 1) cap5, .int .i64 fr, .int .i64 to_] W fun e w' => e = .returned (.tuple #[.int .i64 n, .int .i64 E]) ∧ Below W.heap.size W w' := by
  obtain ⟨A9, c9, e9, hs9⟩ := Sl.of_own ho
  have e9' : A' = A9 ∧ c' = c9 := by simpa using e9
  obtain ⟨rfl, rfl⟩ := e9'
  exact commonV h hlx A' c' (some ⟨gg, 0, none⟩) cap5 (l'.length + 1) (l' ++ [⟨A3, q3, l3⟩]) W hs9 (hp.psA (by simp; omega)) (by rw [List.map_append, List.map_append, hpl]; show _ ++ [l3.map DRl.pl] = _ ++ [q0.rules.map DRl.pl]; rw [hq]) (by simp)
theorem countP {x : Alm} {rs : List DRl} {fr to_ n E : Int} {v : Bool} (h : countR x (rs ++ [lastR v]) fr to_ = (n, E)) (hl : x.cycles.length ≤ 1000000) (A : Option Addr) (c : Nat) (gg cap : Nat) (l' : List DRl) (W : World) (ho : W.ownsRow 0 55 2 (.slice A x.cycles.length c) x.cycles.length (flat Cyc.cells x.cycles)) (hr : RlsAt W W.heap.size (some ⟨gg, 0, none⟩) (l' ++ [lastR v])) (hpl : l'.map DRl.pl = rs.map DRl.pl) :
    Calls Try.prog 54 #[.agg (Alm.cells ⟨A, c, x.cycles, x.sol, x.lun⟩).toArray, .slice (some ⟨gg, 0, none⟩) (l'.length + 1) cap, .int .i64 fr, .int .i64 to_] W fun e w' => e = .returned (.tuple #[.int .i64 n, .int .i64 E]) ∧ Below W.heap.size W w' := by
  obtain ⟨A9, c9, e9, hs9⟩ := Sl.of_own ho
  have e9' : A = A9 ∧ c = c9 := by simpa using e9
  obtain ⟨rfl, rfl⟩ := e9'
  exact countL h hl A c gg cap l' W hs9 hr hpl
theorem PsO.step {W Wc w1 : World} {base : Nat} {v : Value} {ps : List DPs} (h : PsO W base v ps) (h1 : Below W.heap.size W Wc) (hb : Below Wc.heap.size Wc w1) : PsO w1 base v ps := h.below (bl2 h1 hb)
theorem RowP.step {W Wc w1 : World} {q : DPs} (h : RowP W q) (h1 : Below W.heap.size W Wc) (hb : Below Wc.heap.size Wc w1) : RowP w1 q := h.below (bl2 h1 hb)
theorem own_step0 {W w1 : World} {base n size : Nat} {e : TypeId} {v : Value} {xs : List Value} (h : W.ownsRow base e size v n xs) (h1 : Below W.heap.size W w1) : w1.ownsRow base e size v n xs := h.kept (grown_none h1) (by cases hv : v.ownBlock <;> simp)
theorem own_step {W Wc w1 : World} {base n size : Nat} {e : TypeId} {v : Value} {xs : List Value} (h : W.ownsRow base e size v n xs) (h1 : Below W.heap.size W Wc) (hb : Below Wc.heap.size Wc w1) : w1.ownsRow base e size v n xs := own_step0 h (bl2 h1 hb)
theorem Blk.step0 {W w1 : World} {b : Nat} {cs : Array Value} {t : TypeId} (g : Blk W b cs t) (h1 : Below W.heap.size W w1) : Blk w1 b cs t := g.below h1 g.lt
theorem Blk.step {W Wc w1 : World} {b : Nat} {cs : Array Value} {t : TypeId} (g : Blk W b cs t) (h1 : Below W.heap.size W Wc) (hb : Below Wc.heap.size Wc w1) : Blk w1 b cs t := g.step0 (bl2 h1 hb)
theorem PsO.cap {W : World} {base : Nat} {v : Value} {ps : List DPs} (h : PsO W base v ps) (hn : 0 < ps.length) : ∃ g cap, v = .slice (some ⟨g, 0, none⟩) ps.length cap ∧ ps.length ≤ cap ∧ base ≤ g ∧ g < W.heap.size := by
  rcases h.own.2 with ⟨_, h2⟩ | ⟨g, cap, cur, h1, h2, h3, h4, _⟩
  · omega
  · exact ⟨g, cap, h1, h4, h2, (Array.getElem?_eq_some_iff.1 h3).1⟩
end Go.Proofs.Ytfbnllmmoaialaa
namespace Go.Proofs.Ytfbnllmmoaialaa
open Go.RowKit

set_option maxRecDepth 100000 in
set_option maxHeartbeats 8000000 in
theorem lwnext_e (x : Alm) (A2 : Option Addr) (c2 : Nat) (rs : List DRl) (fr to_ : Int) (w : World) (hz : x.a = none → x.c = 0) (hcx : Sl Cyc.cells 2 w w.heap.size x.a x.cycles) (hr : RlsIn w A2 rs) (hlg : largeB x rs = false) (h29 : rs.length ≤ 29) (f0 : 0 ≤ fr) (f1 : to_ ≤ 1000000) (f2 : fr ≤ to_) (f3 : to_ - fr ≤ 100) (hb : bothE x rs ≠ 0) :
    Calls Try.prog 10 #[.agg x.cells.toArray, .slice A2 rs.length c2, .agg #[.int .i64 fr, .int .i64 to_]] w fun en w' => en = .returned (.bool true) ∧ Below w.heap.size w w' := by
  have HLG := Lib.hid (fun W (hW : Below w.heap.size w W) => large_any x A2 c2 rs W ((hr.w.below hW).more hW.size))
  rw [hlg] at HLG
  obtain ⟨hl35, hlx, -⟩ := not_large hlg
  have hlx2 : x.cycles.length ≤ 1000000 := by omega
  have HOW := Lib.hid (fun W (hW : Below w.heap.size w W) => own_any x W hz (by omega) ((hcx.below hW).more hW.size))
  have HRU := Lib.hid (fun W (hW : Below w.heap.size w W) => rules_any A2 c2 rs W ((hr.at_.below hW).more hW.size) hr.nil (by omega))
  have q1 : decide ((29 : Int) < (rs.length : Int)) = false := by simp; omega
  have q2 : decide (fr < 0) = false := by simp; omega
  have q3 : decide (1000000 < to_) = false := by simp; omega
  have q4 : decide (to_ < fr) = false := by simp; omega
  have q5 : IntKind.i64.wrap (to_ - fr) = to_ - fr := IntWalk.i64_in _ ⟨by omega, by omega⟩
  have q6 : decide (100 < to_ - fr) = false := by simp; omega
  obtain ⟨hn, hc⟩ := nextR_er (a := fr) (b := to_) hb
  have HNX := Lib.hid (fun A c A3 k3 l' W h1 h2 h3 => nextV hn hlx2 A c A3 k3 l' W h1 h2 h3)
  have HCT := Lib.hid (fun A c A3 k3 l' W h1 h2 h3 => countV hc hlx2 A c A3 k3 l' W h1 h2 h3)
  obtain ⟨E, hE⟩ : ∃ E, E = bothE x rs := ⟨_, rfl⟩
  rw [← hE] at HNX HCT hb
  have n1 : (E != 0) = true := by simpa using hb
  clear hr hcx hlg hn hc hE hlx hlx2 hb
  obtain ⟨A, c, l, ⟨e, b, u⟩, ⟨d, p, f, m, y, s, k⟩⟩ := x
  simp only [Alm.cells] at *
  go_enter Try.func10, Try.ntmps10
  go_upto_region 1 with fail
  refine gen_w (fun W => Blk W w.heap.size #[.slice A l.length c, .int .i64 e, .int .i64 b, .int .i64 u, .int .i64 d, .int .i64 p, .int .i64 f, .int .i64 m, .int .i64 y, .int .i64 s, .int .i64 k] 28 ∧ Blk W (w.heap.size + 1) #[.int .i64 fr, .int .i64 to_] 36 ∧ Below w.heap.size w W) ⟨(Blk.at_ rfl).alloc _, Blk.at_ (by simp), by (repeat (first | exact Below.refl _ _ | assumption | (refine Below.alloc ?_ (by first | omega | (simp; omega) | (simp; done)) _) | (refine Below.setCell ?_ (by first | omega | (simp; omega) | (simp; done)) _) | (refine Below.drew ?_) | (refine belowN ?_ _) | (refine Below.trans ?_ (Below.mono ‹Below _ _ _› (by first | omega | (simp; omega) | (simp; done))))))⟩ ?_
  rintro V0 ⟨ga, gt, hw⟩
  (have z0 := ga.cell 0; have z1 := ga.cell 1; have z2 := ga.cell 2; have z3 := ga.cell 3; have z4 := ga.cell 4; have z5 := ga.cell 5; have z6 := ga.cell 6; have z7 := ga.cell 7; have z8 := ga.cell 8; have z9 := ga.cell 9; have z10 := ga.cell 10; simp at z0 z1 z2 z3 z4 z5 z6 z7 z8 z9 z10; have u0 := gt.cell 0; have u1 := gt.cell 1; simp at u0 u1)
  go_upto_region 3 with (go_at_call 15; (with_reducible refine (HLG.out _ hw).mono ?_); rintro _ V1 ⟨rfl, hb1⟩; have hw := bl2 hw hb1; have ga := ga.below hb1 ga.lt; have gt := gt.below hb1 gt.lt; (have z0 := ga.cell 0; have z1 := ga.cell 1; have z2 := ga.cell 2; have z3 := ga.cell 3; have z4 := ga.cell 4; have z5 := ga.cell 5; have z6 := ga.cell 6; have z7 := ga.cell 7; have z8 := ga.cell 8; have z9 := ga.cell 9; have z10 := ga.cell 10; simp at z0 z1 z2 z3 z4 z5 z6 z7 z8 z9 z10; have u0 := gt.cell 0; have u1 := gt.cell 1; simp at u0 u1))
  clear hb1
  rename World => w0
  go_cut [7, 8] (fun a b wx => a = .int .i64 0 ∧ b = .int .i64 E ∧ Below w0.heap.size w0 wx)
  case first =>
    as_aux_lemma =>
      go_region_held3 (fun W' => W'.cell? ⟨w.heap.size, 0, none⟩ = some (.slice A l.length c) ∧ W'.cell? ⟨w.heap.size, 1, none⟩ = some (.int .i64 e) ∧ W'.cell? ⟨w.heap.size, 2, none⟩ = some (.int .i64 b) ∧ W'.cell? ⟨w.heap.size, 3, none⟩ = some (.int .i64 u) ∧ W'.cell? ⟨w.heap.size, 4, none⟩ = some (.int .i64 d) ∧ W'.cell? ⟨w.heap.size, 5, none⟩ = some (.int .i64 p) ∧ W'.cell? ⟨w.heap.size, 6, none⟩ = some (.int .i64 f) ∧ W'.cell? ⟨w.heap.size, 7, none⟩ = some (.int .i64 m) ∧ W'.cell? ⟨w.heap.size, 8, none⟩ = some (.int .i64 y) ∧ W'.cell? ⟨w.heap.size, 9, none⟩ = some (.int .i64 s) ∧ W'.cell? ⟨w.heap.size, 10, none⟩ = some (.int .i64 k) ∧ W'.cell? ⟨w.heap.size + 1, 0, none⟩ = some (.int .i64 fr) ∧ W'.cell? ⟨w.heap.size + 1, 1, none⟩ = some (.int .i64 to_)) (first | exact ⟨z0, z1, z2, z3, z4, z5, z6, z7, z8, z9, z10, u0, u1⟩ | go_keep) (first | (go_at_call 53; (with_reducible refine (HNX.out _ _ _ _ _ _ hs2 hr3 HP3.out).mono ?_); rintro _ w3 ⟨rfl, hb3⟩; have hy3 : Below w0.heap.size w0 w3 := bl2 hy2 hb3; have ga3 := ga.below hy3 ga.lt; have gt3 := gt.below hy3 gt.lt; (have z0 := ga3.cell 0; have z1 := ga3.cell 1; have z2 := ga3.cell 2; have z3 := ga3.cell 3; have z4 := ga3.cell 4; have z5 := ga3.cell 5; have z6 := ga3.cell 6; have z7 := ga3.cell 7; have z8 := ga3.cell 8; have z9 := ga3.cell 9; have z10 := ga3.cell 10; simp at z0 z1 z2 z3 z4 z5 z6 z7 z8 z9 z10; have u0 := gt3.cell 0; have u1 := gt3.cell 1; simp at u0 u1)) | (go_at_call 20; (with_reducible refine (HRU.out _ (bl2 hw hy1)).mono ?_); rintro _ w2 ⟨A3, q3, l', rfl, hpl, hown3, hrow3, hb2⟩; have hs2 := (hs1.below hb2).more hb2.size; have hr3 := RetRls.at_ hown3.out hrow3 (by rw [len_pl hpl]; omega); have HP3 := Lib.hid hpl; clear hpl hown3 hrow3; have hy2 : Below w0.heap.size w0 w2 := bl2 hy1 hb2; have ga2 := ga.below hy2 ga.lt; have gt2 := gt.below hy2 gt.lt; (have z0 := ga2.cell 0; have z1 := ga2.cell 1; have z2 := ga2.cell 2; have z3 := ga2.cell 3; have z4 := ga2.cell 4; have z5 := ga2.cell 5; have z6 := ga2.cell 6; have z7 := ga2.cell 7; have z8 := ga2.cell 8; have z9 := ga2.cell 9; have z10 := ga2.cell 10; simp at z0 z1 z2 z3 z4 z5 z6 z7 z8 z9 z10; have u0 := gt2.cell 0; have u1 := gt2.cell 1; simp at u0 u1)) | (go_at_call 19; (with_reducible refine (HOW.out _ (bl2 hw (by (repeat (first | exact Below.refl _ _ | assumption | (refine Below.alloc ?_ (by first | omega | (simp; omega) | (simp; done)) _) | (refine Below.setCell ?_ (by first | omega | (simp; omega) | (simp; done)) _) | (refine Below.drew ?_) | (refine belowN ?_ _) | (refine Below.trans ?_ (Below.mono ‹Below _ _ _› (by first | omega | (simp; omega) | (simp; done))))))))).mono ?_); rintro _ w1 ⟨A1, q1, rfl, hs1, -, hb1⟩; have hy1 : Below w0.heap.size w0 w1 := Below.trans (by (repeat (first | exact Below.refl _ _ | assumption | (refine Below.alloc ?_ (by first | omega | (simp; omega) | (simp; done)) _) | (refine Below.setCell ?_ (by first | omega | (simp; omega) | (simp; done)) _) | (refine Below.drew ?_) | (refine belowN ?_ _) | (refine Below.trans ?_ (Below.mono ‹Below _ _ _› (by first | omega | (simp; omega) | (simp; done))))))) (hb1.mono (by simp)); have ga1 := ga.below hy1 ga.lt; have gt1 := gt.below hy1 gt.lt; (have z0 := ga1.cell 0; have z1 := ga1.cell 1; have z2 := ga1.cell 2; have z3 := ga1.cell 3; have z4 := ga1.cell 4; have z5 := ga1.cell 5; have z6 := ga1.cell 6; have z7 := ga1.cell 7; have z8 := ga1.cell 8; have z9 := ga1.cell 9; have z10 := ga1.cell 10; simp at z0 z1 z2 z3 z4 z5 z6 z7 z8 z9 z10; have u0 := gt1.cell 0; have u1 := gt1.cell 1; simp at u0 u1)))
      all_goals (
        go_wp2_with fail
        go_meet
        exact ⟨rfl, rfl, hy3⟩)
  case rest =>
    obtain ⟨rfl, rfl, hcx⟩ := hcut
    rename World => W5
    have ga5 := ga.below hcx ga.lt
    have gt5 := gt.below hcx gt.lt
    have hw5 := bl2 hw hcx
    clear hcx ga gt hw
    (clear z0 z1 z2 z3 z4 z5 z6 z7 z8 z9 z10 u0 u1)
    have ga := ga5
    have gt := gt5
    have hw := hw5
    clear ga5 gt5 hw5
    (have z0 := ga.cell 0; have z1 := ga.cell 1; have z2 := ga.cell 2; have z3 := ga.cell 3; have z4 := ga.cell 4; have z5 := ga.cell 5; have z6 := ga.cell 6; have z7 := ga.cell 7; have z8 := ga.cell 8; have z9 := ga.cell 9; have z10 := ga.cell 10; simp at z0 z1 z2 z3 z4 z5 z6 z7 z8 z9 z10; have u0 := gt.cell 0; have u1 := gt.cell 1; simp at u0 u1)
    go_upto_region 4 with fail
    rename World => w0
    go_cut [9, 10] (fun a b wx => a = .int .i64 0 ∧ b = .int .i64 E ∧ Below w0.heap.size w0 wx)
    case first =>
      as_aux_lemma =>
        go_region_held3 (fun W' => W'.cell? ⟨w.heap.size, 0, none⟩ = some (.slice A l.length c) ∧ W'.cell? ⟨w.heap.size, 1, none⟩ = some (.int .i64 e) ∧ W'.cell? ⟨w.heap.size, 2, none⟩ = some (.int .i64 b) ∧ W'.cell? ⟨w.heap.size, 3, none⟩ = some (.int .i64 u) ∧ W'.cell? ⟨w.heap.size, 4, none⟩ = some (.int .i64 d) ∧ W'.cell? ⟨w.heap.size, 5, none⟩ = some (.int .i64 p) ∧ W'.cell? ⟨w.heap.size, 6, none⟩ = some (.int .i64 f) ∧ W'.cell? ⟨w.heap.size, 7, none⟩ = some (.int .i64 m) ∧ W'.cell? ⟨w.heap.size, 8, none⟩ = some (.int .i64 y) ∧ W'.cell? ⟨w.heap.size, 9, none⟩ = some (.int .i64 s) ∧ W'.cell? ⟨w.heap.size, 10, none⟩ = some (.int .i64 k) ∧ W'.cell? ⟨w.heap.size + 1, 0, none⟩ = some (.int .i64 fr) ∧ W'.cell? ⟨w.heap.size + 1, 1, none⟩ = some (.int .i64 to_)) (first | exact ⟨z0, z1, z2, z3, z4, z5, z6, z7, z8, z9, z10, u0, u1⟩ | go_keep) (first | (go_at_call 54; (with_reducible refine (HCT.out _ _ _ _ _ _ hs2 hr3 HP3.out).mono ?_); rintro _ w3 ⟨rfl, hb3⟩; have hy3 : Below w0.heap.size w0 w3 := bl2 hy2 hb3; have ga3 := ga.below hy3 ga.lt; have gt3 := gt.below hy3 gt.lt; (have z0 := ga3.cell 0; have z1 := ga3.cell 1; have z2 := ga3.cell 2; have z3 := ga3.cell 3; have z4 := ga3.cell 4; have z5 := ga3.cell 5; have z6 := ga3.cell 6; have z7 := ga3.cell 7; have z8 := ga3.cell 8; have z9 := ga3.cell 9; have z10 := ga3.cell 10; simp at z0 z1 z2 z3 z4 z5 z6 z7 z8 z9 z10; have u0 := gt3.cell 0; have u1 := gt3.cell 1; simp at u0 u1)) | (go_at_call 20; (with_reducible refine (HRU.out _ (bl2 hw hy1)).mono ?_); rintro _ w2 ⟨A3, q3, l', rfl, hpl, hown3, hrow3, hb2⟩; have hs2 := (hs1.below hb2).more hb2.size; have hr3 := RetRls.at_ hown3.out hrow3 (by rw [len_pl hpl]; omega); have HP3 := Lib.hid hpl; clear hpl hown3 hrow3; have hy2 : Below w0.heap.size w0 w2 := bl2 hy1 hb2; have ga2 := ga.below hy2 ga.lt; have gt2 := gt.below hy2 gt.lt; (have z0 := ga2.cell 0; have z1 := ga2.cell 1; have z2 := ga2.cell 2; have z3 := ga2.cell 3; have z4 := ga2.cell 4; have z5 := ga2.cell 5; have z6 := ga2.cell 6; have z7 := ga2.cell 7; have z8 := ga2.cell 8; have z9 := ga2.cell 9; have z10 := ga2.cell 10; simp at z0 z1 z2 z3 z4 z5 z6 z7 z8 z9 z10; have u0 := gt2.cell 0; have u1 := gt2.cell 1; simp at u0 u1)) | (go_at_call 19; (with_reducible refine (HOW.out _ (bl2 hw (by (repeat (first | exact Below.refl _ _ | assumption | (refine Below.alloc ?_ (by first | omega | (simp; omega) | (simp; done)) _) | (refine Below.setCell ?_ (by first | omega | (simp; omega) | (simp; done)) _) | (refine Below.drew ?_) | (refine belowN ?_ _) | (refine Below.trans ?_ (Below.mono ‹Below _ _ _› (by first | omega | (simp; omega) | (simp; done))))))))).mono ?_); rintro _ w1 ⟨A1, q1, rfl, hs1, -, hb1⟩; have hy1 : Below w0.heap.size w0 w1 := Below.trans (by (repeat (first | exact Below.refl _ _ | assumption | (refine Below.alloc ?_ (by first | omega | (simp; omega) | (simp; done)) _) | (refine Below.setCell ?_ (by first | omega | (simp; omega) | (simp; done)) _) | (refine Below.drew ?_) | (refine belowN ?_ _) | (refine Below.trans ?_ (Below.mono ‹Below _ _ _› (by first | omega | (simp; omega) | (simp; done))))))) (hb1.mono (by simp)); have ga1 := ga.below hy1 ga.lt; have gt1 := gt.below hy1 gt.lt; (have z0 := ga1.cell 0; have z1 := ga1.cell 1; have z2 := ga1.cell 2; have z3 := ga1.cell 3; have z4 := ga1.cell 4; have z5 := ga1.cell 5; have z6 := ga1.cell 6; have z7 := ga1.cell 7; have z8 := ga1.cell 8; have z9 := ga1.cell 9; have z10 := ga1.cell 10; simp at z0 z1 z2 z3 z4 z5 z6 z7 z8 z9 z10; have u0 := gt1.cell 0; have u1 := gt1.cell 1; simp at u0 u1)))
        all_goals (
          go_wp2_with fail
          go_meet
          exact ⟨rfl, rfl, hy3⟩)
    case rest =>
      obtain ⟨rfl, rfl, hcx⟩ := hcut
      rename World => W6
      have ga5 := ga.below hcx ga.lt
      have gt5 := gt.below hcx gt.lt
      have hw5 := bl2 hw hcx
      clear hcx ga gt hw
      (clear z0 z1 z2 z3 z4 z5 z6 z7 z8 z9 z10 u0 u1)
      have ga := ga5
      have gt := gt5
      have hw := hw5
      clear ga5 gt5 hw5
      (have z0 := ga.cell 0; have z1 := ga.cell 1; have z2 := ga.cell 2; have z3 := ga.cell 3; have z4 := ga.cell 4; have z5 := ga.cell 5; have z6 := ga.cell 6; have z7 := ga.cell 7; have z8 := ga.cell 8; have z9 := ga.cell 9; have z10 := ga.cell 10; simp at z0 z1 z2 z3 z4 z5 z6 z7 z8 z9 z10; have u0 := gt.cell 0; have u1 := gt.cell 1; simp at u0 u1)
      go_wp2_with (go_at_call 17; refine (known_any _).mono ?_; rintro _ V1 ⟨rfl, hb1⟩; have hw := bl2 hw hb1)
      refine bodyPost_ret (v := .bool true) (by simp [results, Try.results10, go_sem]) rfl ?_
      exact ⟨rfl, hw⟩
end Go.Proofs.Ytfbnllmmoaialaa

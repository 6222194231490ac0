/- almanac: the law AlmanacNext, words. -/
import Derived.Test.YtfbnllmmoaialaaZ29Bf
import Derived.Test.YtfbnllmmoaialaaZ28Pi
import Derived.Deep.RegionHeldLaw
import Derived.Deep.AppendLies
namespace Go.Proofs.Ytfbnllmmoaialaa
open Go.RowKit

theorem countV {x : Alm} {rs : List DRl} {fr to_ n E : Int} (h : countR x rs fr to_ = (n, E)) (hl : x.cycles.length ≤ 1000000) (A : Option Addr) (c : Nat) (A3 : Option Addr) (k3 : Nat) (l' : List DRl) (W : World) (hs : Sl Cyc.cells 2 W W.heap.size A x.cycles) (hr : RlsAt W W.heap.size A3 l') (hpl : l'.map DRl.pl = rs.map DRl.pl) :
    Calls Try.prog 54 #[.agg (Alm.cells ⟨A, c, x.cycles, x.sol, x.lun⟩).toArray, .slice A3 l'.length k3, .int .i64 fr, .int .i64 to_] W fun e w' => e = .returned (.tuple #[.int .i64 n, .int .i64 E]) ∧ Below W.heap.size W w' := by
  have h1 := countF_any (x.at_ A c) A3 k3 l' fr to_ W hl hs hr
  rw [countR_cong hpl, h] at h1
  exact h1
theorem append_rls {W w5 : World} {base : Nat} {A3 : Option Addr} {q3 gg cap : Nat} {l' : List DRl} {v : Bool} (hown : W.ownsRow base 83 2 (.slice A3 l'.length q3) l'.length (flat DRl.cells l')) (hrow : ∀ r ∈ l', RowD W r)
    (hown5 : w5.ownsRow base 83 2 (.slice (some ⟨gg, 0, none⟩) (l'.length + 1) cap) (l'.length + 1) (flat DRl.cells l' ++ [.slice none 0 0, .bool v])) (hgrow : W.grownBy w5 (Value.slice A3 l'.length q3).ownBlock) (hl : l'.length ≤ 100) : RlsAt w5 w5.heap.size (some ⟨gg, 0, none⟩) (l' ++ [lastR v]) := by
  have e1 : flat DRl.cells (l' ++ [lastR v]) = flat DRl.cells l' ++ [.slice none 0 0, .bool v] := by simp [flat, DRl.cells]
  have e2 : (l' ++ [lastR v]).length = l'.length + 1 := by simp
  have h5 : w5.ownsRow base 83 2 (.slice (some ⟨gg, 0, none⟩) (l' ++ [lastR v]).length cap) (l' ++ [lastR v]).length (flat DRl.cells (l' ++ [lastR v])) := by rw [e1, e2]; exact hown5
  obtain ⟨A, c, e, hs⟩ := Sl.of_own h5
  have e3 : some (⟨gg, 0, none⟩ : Addr) = A ∧ cap = c := by simpa using e
  refine ⟨by rw [e2]; omega, by rw [e3.1]; exact hs, fun r hr => ?_⟩
  rcases List.mem_append.1 hr with h | h
  · exact ((hrow r h).grown hgrow fun v' ⟨n', xs', h'⟩ => ownsRow_apart h' hown (by decide)).rul
  · rw [List.mem_singleton.1 h]
    exact ⟨by simp, fun t ht => by simp at ht, sl_nil⟩
theorem countL {x : Alm} {rs : List DRl} {fr to_ n E : Int} {v : Bool} (h : countR x (rs ++ [lastR v]) fr to_ = (n, E)) (hl : x.cycles.length ≤ 1000000) (A : Option Addr) (c : Nat) (gg cap : Nat) (l' : List DRl) (W : World) (hs : Sl Cyc.cells 2 W W.heap.size A x.cycles) (hr : RlsAt W W.heap.size (some ⟨gg, 0, none⟩) (l' ++ [lastR v])) (hpl : l'.map DRl.pl = rs.map DRl.pl) :
    Calls Try.prog 54 #[.agg (Alm.cells ⟨A, c, x.cycles, x.sol, x.lun⟩).toArray, .slice (some ⟨gg, 0, none⟩) (l'.length + 1) cap, .int .i64 fr, .int .i64 to_] W fun e w' => e = .returned (.tuple #[.int .i64 n, .int .i64 E]) ∧ Below W.heap.size W w' := by
  have h1 := countV h hl A c (some ⟨gg, 0, none⟩) cap (l' ++ [lastR v]) W hs hr (by rw [List.map_append, List.map_append, hpl])
  rw [List.length_append, List.length_singleton] at h1
  exact h1
end Go.Proofs.Ytfbnllmmoaialaa
namespace Go.Proofs.Ytfbnllmmoaialaa
open Go.RowKit

theorem commonV {x : Alm} {ps : List DPs} {fr to_ n E : Int} (h : comR x ps fr to_ = (n, E)) (hl : x.cycles.length ≤ 1000000) (A : Option Addr) (c : Nat) (A3 : Option Addr) (k3 N : Nat) (l' : List DPs) (W : World) (hs : Sl Cyc.cells 2 W W.heap.size A x.cycles) (hr : PsA W W.heap.size A3 l') (hpl : l'.map DPs.pl = ps.map DPs.pl) (hN : l'.length = N) :
    Calls Try.prog 52 #[.agg (Alm.cells ⟨A, c, x.cycles, x.sol, x.lun⟩).toArray, .slice A3 N k3, .int .i64 fr, .int .i64 to_] W fun e w' => e = .returned (.tuple #[.int .i64 n, .int .i64 E]) ∧ Below W.heap.size W w' := by
  have h1 := common_any (x.at_ A c) A3 k3 l' fr to_ W hl hs hr
  rw [comR_cong hpl, h, hN] at h1
  exact h1
theorem persons_slice (A : Option Addr) (len c : Nat) (W : World) (h : 1 ≤ len) : (Instr.slice 49 (.slice A len c) (some (.int .i64 1)) none none).run Try.prog W = .ok (sliced A 1 len c 1) W := by
  rw [run_slice_l W 49 A len c (by kernel_rfl) .i64 1 (by omega) (by omega)]
  have hs : (sizeOf (Try.prog.elem 49)).run Try.prog W = .ok 1 W := by kernel_rfl
  rw [hs]
  rfl
/-- a slice from its k-th element on -/
theorem Sl.from_ {α : Type} {f : α → List Value} {size : Nat} {w : World} {B : Nat} {A : Option Addr} {l : List α} (h : Sl f size w B A l) (hf : ∀ x, (f x).length = size) (k : Nat) (c : Nat) (hc : l.length ≤ c) :
    ∃ A', sliced A k l.length c size = .slice A' (l.length - k) (c - k) ∧ Sl f size w B A' (l.drop k) := by
  refine ⟨_, rfl, ?_⟩
  refine ⟨flat_length f size hf _, fun hn => ?_⟩
  simp only [List.length_drop] at hn
  obtain ⟨b, o, e, hb, hcell⟩ := h.2 (by omega)
  subst e
  rw [if_neg (by omega)]
  refine ⟨b, o + k * size, by simp [Go.WideShapes.add_plain], hb, fun j u hu => ?_⟩
  rw [Nat.add_assoc]
  refine hcell _ _ ?_
  have e : flat f l = flat f (l.take k) ++ flat f (l.drop k) := by
    rw [flat, flat, flat, ← List.flatMap_append, List.take_append_drop]
  have hl : (flat f (l.take k)).length = k * size := by rw [flat_length f size hf, List.length_take, Nat.min_eq_left (by omega)]
  rw [e, List.getElem?_append_right (by rw [hl]; omega), hl, show k * size + j - k * size = j by omega]
  exact hu
theorem persons_cell {w : World} {B : Nat} {A : Option Addr} {ps : List DPs} (h : Sl DPs.cells 1 w B A ps) (hn : 0 < ps.length) : ∃ b o, A = some ⟨b, o, none⟩ ∧ b < B ∧ ∀ j (hj : j < ps.length), w.cell? ⟨b, o + j, none⟩ = some (.slice ps[j].a ps[j].rules.length ps[j].c) := by
  obtain ⟨b, o, e, hb, hc⟩ := h.2 hn
  refine ⟨b, o, e, hb, fun j hj => ?_⟩
  obtain ⟨b', o', e', hb', hc'⟩ := h.at_ (k := j) (fun _ => rfl) hj
  rw [e] at e'
  cases e'
  have := hc' 0 _ rfl
  simpa using this
theorem commonT {x : Alm} {ps l' : List DPs} {q0 : DPs} {fr to_ n E : Int} (h : comR x (ps ++ [q0]) fr to_ = (n, E)) (hlx : x.cycles.length ≤ 1000000) (hpl : l'.map DPs.pl = ps.map DPs.pl) (hl : l'.length ≤ 9) (A' : Option Addr) (c' gg cap5 : Nat) (A3 : Option Addr) (q3 : Nat) (l3 : List DRl) (W : World) (base : Nat) (ho : W.ownsRow 0 55 2 (.slice A' x.cycles.length c') x.cycles.length (flat Cyc.cells x.cycles)) (hp : PsO W base (.slice (some ⟨gg, 0, none⟩) (l' ++ [(⟨A3, q3, l3⟩ : DPs)]).length cap5) (l' ++ [⟨A3, q3, l3⟩])) (hq : l3.map DRl.pl = q0.rules.map DRl.pl) :
    Calls Try.prog 52 #[.agg (Alm.cells ⟨A', c', x.cycles, x.sol, x.lun⟩).toArray, .slice (some ⟨gg, 0, none⟩) (l'.length + 1) cap5, .int .i64 fr, .int .i64 to_] W fun e w' => e = .returned (.tuple #[.int .i64 n, .int .i64 E]) ∧ Below W.heap.size W w' := by
  obtain ⟨A9, c9, e9, hs9⟩ := Sl.of_own ho
  have e9' : A' = A9 ∧ c' = c9 := by simpa using e9
  obtain ⟨rfl, rfl⟩ := e9'
  exact commonV h hlx A' c' (some ⟨gg, 0, none⟩) cap5 (l'.length + 1) (l' ++ [⟨A3, q3, l3⟩]) W hs9 (hp.psA (by simp; omega)) (by rw [List.map_append, List.map_append, hpl]; show _ ++ [l3.map DRl.pl] = _ ++ [q0.rules.map DRl.pl]; rw [hq]) (by simp)
theorem PsO.step {W Wc w1 : World} {base : Nat} {v : Value} {ps : List DPs} (h : PsO W base v ps) (h1 : Below W.heap.size W Wc) (hb : Below Wc.heap.size Wc w1) : PsO w1 base v ps := h.below (bl2 h1 hb)
theorem RowP.step {W Wc w1 : World} {q : DPs} (h : RowP W q) (h1 : Below W.heap.size W Wc) (hb : Below Wc.heap.size Wc w1) : RowP w1 q := h.below (bl2 h1 hb)
theorem own_step0 {W w1 : World} {base n size : Nat} {e : TypeId} {v : Value} {xs : List Value} (h : W.ownsRow base e size v n xs) (h1 : Below W.heap.size W w1) : w1.ownsRow base e size v n xs := h.kept (grown_none h1) (by cases hv : v.ownBlock <;> simp)
theorem own_step {W Wc w1 : World} {base n size : Nat} {e : TypeId} {v : Value} {xs : List Value} (h : W.ownsRow base e size v n xs) (h1 : Below W.heap.size W Wc) (hb : Below Wc.heap.size Wc w1) : w1.ownsRow base e size v n xs := own_step0 h (bl2 h1 hb)
theorem Blk.step0 {W w1 : World} {b : Nat} {cs : Array Value} {t : TypeId} (g : Blk W b cs t) (h1 : Below W.heap.size W w1) : Blk w1 b cs t := g.below h1 g.lt
theorem Blk.step {W Wc w1 : World} {b : Nat} {cs : Array Value} {t : TypeId} (g : Blk W b cs t) (h1 : Below W.heap.size W Wc) (hb : Below Wc.heap.size Wc w1) : Blk w1 b cs t := g.step0 (bl2 h1 hb)
theorem PsO.cap {W : World} {base : Nat} {v : Value} {ps : List DPs} (h : PsO W base v ps) (hn : 0 < ps.length) : ∃ g cap, v = .slice (some ⟨g, 0, none⟩) ps.length cap ∧ ps.length ≤ cap ∧ base ≤ g ∧ g < W.heap.size := by
  rcases h.own.2 with ⟨_, h2⟩ | ⟨g, cap, cur, h1, h2, h3, h4, _⟩
  · omega
  · exact ⟨g, cap, h1, h4, h2, (Array.getElem?_eq_some_iff.1 h3).1⟩
end Go.Proofs.Ytfbnllmmoaialaa

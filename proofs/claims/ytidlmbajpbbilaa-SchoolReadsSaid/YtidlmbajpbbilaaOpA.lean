/- The rows' frame: arguments opened: slices. -/
import Derived.Test.YtidlmbajpbbilaaLwD
import Derived.ProofKit
namespace Go.Proofs.Ytidlmbajpbbilaa
open Go.RowKit

theorem spot_of_cell {w : World} {a : Addr} {u : Value} (h : w.cell? a = some u) : a.spot = none := by
  unfold World.cell? at h
  split at h
  · split at h
    · cases h
    · rename_i hs; simpa using hs
  · cases h
/-- a slice of things, each opened by itself -/
theorem sl_of_open {α : Type} (f : α → List Value) (size : Nat) (hsz : 0 < size) (hf : ∀ x, (f x).length = size) {w : World} {a : Addr} (Q : α → Prop) : ∀ (len : Nat), (∀ i, i < len → ∃ x, Q x ∧ ∀ j u, (f x)[j]? = some u → w.cell? (a.add (i * size + j)) = some u) →
    ∃ l : List α, l.length = len ∧ Sl f size w w.heap.size (some a) l ∧ ∀ x ∈ l, Q x := by
  intro len h
  have h' : ∀ i : Fin len, ∃ x, Q x ∧ ∀ j u, (f x)[j]? = some u → w.cell? (a.add (i.1 * size + j)) = some u := fun i => h i.1 i.2
  let g : Fin len → α := fun i => (h' i).choose
  have hg : ∀ i, Q (g i) ∧ ∀ j u, (f (g i))[j]? = some u → w.cell? (a.add (i.1 * size + j)) = some u := fun i => (h' i).choose_spec
  have hlen : (List.ofFn g).length = len := by simp
  refine ⟨List.ofFn g, hlen, ⟨flat_length f size hf _, fun hpos => ?_⟩, fun x hx => ?_⟩
  · rw [hlen] at hpos
    have hc : ∀ (k r : Nat) (hk : k < len) (u : Value), (f (g ⟨k, hk⟩))[r]? = some u → w.cell? (a.add (k * size + r)) = some u := fun k r hk u hu => (hg ⟨k, hk⟩).2 r u hu
    have h0 : 0 < (f (g ⟨0, hpos⟩)).length := by rw [hf]; exact hsz
    have c0 := hc 0 0 hpos _ (List.getElem?_eq_getElem h0)
    have hs : (a.add (0 * size + 0)).spot = none := spot_of_cell c0
    obtain ⟨b, o, sp⟩ := a
    replace hs : sp = none := by simpa [Addr.add] using hs
    subst hs
    refine ⟨b, o, rfl, by have h := World.block_lt_of_cell? w _ c0; rw [Go.WideShapes.add_plain] at h; exact h, fun j u hu => ?_⟩
    have hjl : j < len * size := by
      have h1 := (List.getElem?_eq_some_iff.1 hu).1
      rw [flat_length f size hf, hlen] at h1
      exact h1
    have hk : j / size < len := by rw [Nat.div_lt_iff_lt_mul hsz]; exact hjl
    have hj : j / size * size + j % size = j := by rw [Nat.mul_comm]; exact Nat.div_add_mod j size
    have hfg := flat_get f size hf (List.ofFn g) (j / size) (j % size) (by rw [hlen]; exact hk) (Nat.mod_lt _ hsz)
    rw [hj, hu] at hfg
    have hge : (List.ofFn g)[j / size]'(by rw [hlen]; exact hk) = g ⟨j / size, hk⟩ := by simp
    rw [hge] at hfg
    have := hc (j / size) (j % size) hk u hfg.symm
    rw [hj, Go.WideShapes.add_plain] at this
    exact this
  · obtain ⟨i, rfl⟩ := List.mem_ofFn.1 hx
    exact (hg i).1
end Go.Proofs.Ytidlmbajpbbilaa

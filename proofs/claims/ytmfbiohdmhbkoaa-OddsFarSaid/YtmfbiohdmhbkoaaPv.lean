/- Plain: the chosen weights added up. -/
import Derived.Test.YtmfbiohdmhbkoaaPn
namespace Go.Proofs.Ytmfbiohdmhbkoaa

/-- the sum of some weights -/
def selS (w o : List Int) : Int := sumL (o.map fun k => w.getD k.toNat 0)
theorem selS_take (w o : List Int) (k : Nat) (h : k < o.length) : selS w (o.take (k + 1)) = selS w (o.take k) + w.getD (o[k]).toNat 0 := by
  unfold selS
  rw [List.map_take, List.map_take]
  have := sumL_take (o.map fun k => w.getD k.toNat 0) k (by simpa using h)
  rw [this]; simp
theorem sumL_setz {l : List Int} {k : Nat} {x : Int} (hk : k < l.length) (hz : l.getD k 0 = 0) : sumL (l.set k x) = sumL l + x := by
  have e : bump l k x = l.set k x := by unfold bump; rw [hz, Int.zero_add]
  rw [← e, ← ev_one, ev_bump 1 l k x hk, ev_one, Int.one_pow, Int.mul_one]
theorem keepF_sum (w : List Int) (n : Int) : ∀ (o acc : List Int) (next : Int), 0 ≤ next → amongF n next o = true → (acc.length : Int) = n → (∀ j : Nat, next ≤ j → acc.getD j 0 = 0) → sumL (keepF w acc o) = sumL acc + selS w o
  | [], acc, next, _, _, _, _ => by simp [keepF, selS, sumL]
  | k :: o, acc, next, h0, h, hl, hz => by
    simp only [amongF, Bool.and_eq_true, decide_eq_true_eq] at h
    obtain ⟨⟨h1, h2⟩, h3⟩ := h
    have hk : k.toNat < acc.length := by omega
    have ih := keepF_sum w n o (acc.set k.toNat (w.getD k.toNat 0)) (k + 1) (by omega) h3 (by rw [List.length_set]; exact hl) (fun j hj => by
      have e : (acc.set k.toNat (w.getD k.toNat 0)).getD j 0 = acc.getD j 0 := by
        simp only [List.getD_eq_getElem?_getD]; rw [List.getElem?_set_ne (by omega)]
      rw [e]; exact hz j (by omega))
    show sumL (keepF w (acc.set k.toNat (w.getD k.toNat 0)) o) = _
    rw [ih, sumL_setz hk (hz _ (by omega))]
    have : selS w (k :: o) = w.getD k.toNat 0 + selS w o := by simp [selS, sumL_cons]
    rw [this]; omega
theorem keepL_sel {w o : List Int} (h : amongB o w.length = true) : sumL (keepL w o) = selS w o := by
  unfold keepL
  rw [keepF_sum w w.length o _ 0 (by omega) h (by simp) (fun j _ => by
    rw [List.getD_eq_getElem?_getD, List.getElem?_replicate]; split <;> rfl)]
  have : sumL (List.replicate w.length 0) = 0 := by
    have : ∀ n, sumL (List.replicate n 0) = 0 := fun n => by
      induction n with
      | zero => rfl
      | succ n ih => rw [List.replicate_succ, sumL_cons, ih]; rfl
    exact this _
  rw [this]; omega
theorem selS_nn {w o : List Int} (h : ∀ x ∈ w, 0 ≤ x) : 0 ≤ selS w o := by
  refine sumL_nonneg fun x hx => ?_
  obtain ⟨k, _, rfl⟩ := List.mem_map.1 hx
  by_cases hk : k.toNat < w.length
  · have := h _ (List.getElem_mem hk); simp [hk]; exact this
  · simp [Nat.not_lt.1 hk]
theorem selS_split (w o : List Int) (k : Nat) : selS w o = selS w (o.take k) + selS w (o.drop k) := by
  unfold selS
  rw [← sumL_append, ← List.map_append, List.take_append_drop]
end Go.Proofs.Ytmfbiohdmhbkoaa

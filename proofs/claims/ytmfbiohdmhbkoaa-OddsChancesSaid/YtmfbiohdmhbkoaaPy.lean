/- Plain: a product divided, bit by bit. -/
import Derived.Test.YtmfbiohdmhbkoaaPn
namespace Go.Proofs.Ytmfbiohdmhbkoaa

/-- the number of some bits, the highest one first -/
def vb (l : List Int) : Int := l.foldl (fun s x => 2 * s + x) 0
theorem vb_snoc (l : List Int) (x : Int) : vb (l ++ [x]) = 2 * vb l + x := by simp [vb]
theorem vb_take (l : List Int) (k : Nat) (h : k < l.length) : vb (l.take (k + 1)) = 2 * vb (l.take k) + l[k] := by rw [take_snoc_int l k h, vb_snoc]
theorem vb_from (l : List Int) : ∀ s, l.foldl (fun s x => 2 * s + x) s = s * 2 ^ l.length + vb l := by
  induction l with
  | nil => intro s; simp [vb]
  | cons y l ih =>
    intro s
    have e : vb (y :: l) = y * 2 ^ l.length + vb l := by
      show l.foldl (fun s x => 2 * s + x) (2 * 0 + y) = _
      rw [ih]; simp
    rw [e]
    show l.foldl (fun s x => 2 * s + x) (2 * s + y) = _
    rw [ih, List.length_cons, Int.pow_succ, Int.add_mul]
    have : 2 * s * 2 ^ l.length = s * (2 ^ l.length * 2) := by rw [Int.mul_comm 2 s, Int.mul_assoc, Int.mul_comm 2]
    omega
theorem vb_cons (y : Int) (l : List Int) : vb (y :: l) = y * 2 ^ l.length + vb l := by
  show l.foldl (fun s x => 2 * s + x) (2 * 0 + y) = _
  rw [vb_from]; simp
/-- a bit more ahead -/
theorem vb_bit {b n : Int} {l : List Int} (h : b = n * 2 ^ l.length + vb l) : b = n / 2 * 2 ^ (n % 2 :: l).length + vb (n % 2 :: l) := by
  rw [vb_cons, List.length_cons, Int.pow_succ]
  have e : n = n / 2 * 2 + n % 2 := by omega
  have e2 : n / 2 * (2 ^ l.length * 2) = n / 2 * 2 * 2 ^ l.length := by rw [Int.mul_assoc, Int.mul_comm (2 ^ l.length) 2]
  rw [e2, ← Int.add_assoc, ← Int.add_mul, ← e]
  exact h
theorem vb_nn {l : List Int} (h : ∀ x ∈ l, 0 ≤ x) : 0 ≤ vb l := by
  have key : ∀ (l : List Int) (s : Int), 0 ≤ s → (∀ x ∈ l, 0 ≤ x) → 0 ≤ l.foldl (fun s x => 2 * s + x) s := fun l => by
    induction l with
    | nil => exact fun s hs _ => hs
    | cons y l ih => exact fun s hs h => ih (2 * s + y) (by have := h y (by simp); omega) (fun x hx => h x (by simp [hx]))
  exact key l 0 (by omega) h
/-- a beginning is no more than all -/
theorem vb_take_le {l : List Int} (h : ∀ x ∈ l, 0 ≤ x) (k : Nat) : 0 ≤ vb (l.take k) ∧ vb (l.take k) ≤ vb l := by
  have h1 := vb_nn (l := l.take k) fun x hx => h x (List.mem_of_mem_take hx)
  have h2 := vb_nn (l := l.drop k) fun x hx => h x (List.mem_of_mem_drop hx)
  have e0 : vb (l.take k ++ l.drop k) = List.foldl (fun s x => 2 * s + x) (vb (l.take k)) (l.drop k) := by unfold vb; rw [List.foldl_append]
  rw [List.take_append_drop] at e0
  have e : vb l = vb (l.take k) * 2 ^ (l.drop k).length + vb (l.drop k) := by rw [e0, vb_from]
  have hp : (1 : Int) ≤ 2 ^ (l.drop k).length := Int.pow_pos (by omega)
  have := Int.mul_le_mul_of_nonneg_left hp h1
  rw [Int.mul_one] at this
  exact ⟨h1, by omega⟩
theorem div_rest {w r c v : Int} (h : w * c + r = v) (h0 : 0 ≤ r) (h1 : r < c) : w = v / c ∧ r = v % c := by
  have hc : 0 < c := by omega
  rw [← h, Int.add_comm, Int.add_mul_ediv_right _ _ (by omega), Int.add_mul_emod_self_right, Int.ediv_eq_zero_of_lt h0 h1, Int.emod_eq_of_lt h0 h1, Int.zero_add]
  exact ⟨rfl, rfl⟩
end Go.Proofs.Ytmfbiohdmhbkoaa

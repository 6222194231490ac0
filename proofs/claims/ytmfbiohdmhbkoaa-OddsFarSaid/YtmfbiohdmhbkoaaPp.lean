/- Plain: repeated sums. -/
import Derived.Test.YtmfbiohdmhbkoaaPn
namespace Go.Proofs.Ytmfbiohdmhbkoaa

/-- outcomes that are repeated, one after another -/
def pwL (w : List Int) : Nat → List Int
  | 0 => [1]
  | n + 1 => conv (pwL w n) w
/-- L has the weights of p outcomes of w -/
structure Pow (w L : List Int) (p : Nat) : Prop where
  len : L.length = p * (w.length - 1) + 1
  nn : ∀ y ∈ L, 0 ≤ y
  ev : ∀ B, ev B L = (ev B w) ^ p
theorem Pow.zero (w : List Int) : Pow w [1] 0 := ⟨by simp, by simp, fun B => by simp [Go.Proofs.Ytmfbiohdmhbkoaa.ev]⟩
theorem Pow.one {w : List Int} (h : ∀ y ∈ w, 0 ≤ y) (hl : 0 < w.length) : Pow w w 1 := ⟨by omega, h, fun B => by rw [Int.pow_succ, Int.pow_zero, Int.one_mul]⟩
theorem Pow.conv {w L M : List Int} {p k : Nat} (h : Pow w L p) (h' : Pow w M k) : Pow w (conv L M) (p + k) := by
  refine ⟨?_, conv_nn h.nn h'.nn, fun B => ?_⟩
  · rw [conv_len, h.len, h'.len, Nat.add_mul]; omega
  · rw [ev_conv B L M (by rw [h'.len]; omega), h.ev, h'.ev, Int.pow_add]
theorem Pow.sum {w L : List Int} {p : Nat} (h : Pow w L p) : sumL L = sumL w ^ p := by rw [← ev_one, ← ev_one, h.ev]
theorem pow_mono {s : Int} (hs : 1 ≤ s) {p t : Nat} (h : p ≤ t) : s ^ p ≤ s ^ t := by
  obtain ⟨d, rfl⟩ := Nat.exists_eq_add_of_le h
  rw [Int.pow_add]
  have h1 : 0 < s ^ p := Int.pow_pos (by omega)
  have h2 : 0 < s ^ d := Int.pow_pos (by omega)
  have := Int.mul_le_mul_of_nonneg_left (show 1 ≤ s ^ d by omega) (show 0 ≤ s ^ p by omega)
  omega
theorem Pow.ok {w L : List Int} {p t : Nat} (h : Pow w L p) (hs : 1 ≤ sumL w) (hp : p ≤ t) (hl : t * (w.length - 1) + 1 ≤ 4096) (hb : sumL w ^ t ≤ 1000000000000000) : OkW L := by
  have h1 := pow_mono hs hp
  have h2 : 0 < sumL w ^ p := Int.pow_pos (by omega)
  have h3 := Nat.mul_le_mul_right (w.length - 1) hp
  exact ⟨by rw [h.len]; omega, h.nn, by rw [h.sum]; omega, by rw [h.sum]; omega⟩
theorem Pow.unique {w L M : List Int} {p : Nat} (h : Pow w L p) (h' : Pow w M p) (hb : sumL w ^ p ≤ 1000000000000000) : L = M := by
  have bd : ∀ {X : List Int}, Pow w X p → ∀ y ∈ X, 0 ≤ y ∧ y < 1000000000000001 := fun hX y hy => by
    have h1 := hX.nn y hy
    obtain ⟨k, hk, rfl⟩ := List.mem_iff_getElem.1 hy
    have h2 := le_sumL hX.nn hk
    have h3 := hX.sum
    omega
  exact ev_inj (B := 1000000000000001) (by omega) (by rw [h.len, h'.len]) (bd h) (bd h') (by rw [h.ev, h'.ev])
theorem pow_pwL {w : List Int} (h : ∀ y ∈ w, 0 ≤ y) (hl : 0 < w.length) : ∀ n, Pow w (pwL w n) n
  | 0 => Pow.zero w
  | n + 1 => (pow_pwL h hl n).conv (Pow.one h hl)
/-- Repeat: the list and the error -/
def repR (w : List Int) (t : Int) : List Int × Int :=
  if errW w ≠ 0 then ([], errW w) else if t < 0 ∨ 64 < t then ([], 3) else if 4096 < t * ((w.length : Int) - 1) + 1 then ([], 5) else if 1000000000000000 < sumL w ^ t.toNat then ([], 10) else (pwL w t.toNat, 0)
/-- powers that are too great stay so -/
theorem pow_great {s : Int} (hs : 1 ≤ s) {i t : Nat} (h : i < t) (hb : 1000000000000000 < s ^ i * s) : 1000000000000000 < s ^ t := by
  have := pow_mono hs (show i + 1 ≤ t by omega)
  rw [Int.pow_succ] at this
  omega
/-- a sum of powers that fits has no error -/
theorem Pow.fits {w L M : List Int} {p k t : Nat} (h : Pow w L p) (h' : Pow w M k) (hs : 1 ≤ sumL w) (hp : p + k ≤ t) (hl : t * (w.length - 1) + 1 ≤ 4096) (hb : sumL w ^ t ≤ 1000000000000000) : sumR L M = (Go.Proofs.Ytmfbiohdmhbkoaa.conv L M, 0) := by
  have o1 := h.ok hs (show p ≤ t by omega) hl hb
  have o2 := h'.ok hs (show k ≤ t by omega) hl hb
  have h3 := Nat.mul_le_mul_right (w.length - 1) hp
  rw [Nat.add_mul] at h3
  have h4 := pow_mono hs hp
  have : fitsW L M (L.length + M.length - 1) = 0 := fitsW_zero.2 ⟨o1, o2, by rw [h.len, h'.len]; omega, by rw [h.sum, h'.sum, ← Int.pow_add]; omega⟩
  unfold sumR; rw [if_pos this]
end Go.Proofs.Ytmfbiohdmhbkoaa

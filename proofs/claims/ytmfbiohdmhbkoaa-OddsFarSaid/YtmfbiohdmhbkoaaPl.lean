/- Plain: what the lists of weights, chances and throws of chapter 1 are, with no program in sight. -/
import Derived.Lib.Hide
namespace Go.Proofs.Ytmfbiohdmhbkoaa

/-- the greatest common divisor, as an integer -/
def gI (a b : Int) : Int := (Nat.gcd a.toNat b.toNat : Int)
theorem gI_nonneg (a b : Int) : 0 ≤ gI a b := by unfold gI; omega
theorem gI_step {a b : Int} (ha : 0 ≤ a) (hb : 0 ≤ b) : gI b (a % b) = gI a b := by
  obtain ⟨a, rfl⟩ := Int.eq_ofNat_of_zero_le ha
  obtain ⟨b, rfl⟩ := Int.eq_ofNat_of_zero_le hb
  unfold gI
  have e : ((a : Int) % (b : Int)).toNat = a % b := by rw [← Int.natCast_emod]; rfl
  rw [e, Int.toNat_natCast, Int.toNat_natCast, Nat.gcd_comm b, ← Nat.gcd_rec, Nat.gcd_comm]
theorem gI_zero {a : Int} (ha : 0 ≤ a) : gI a 0 = a := by
  unfold gI; simp; omega
theorem gI_zero_left {a : Int} (ha : 0 ≤ a) : gI 0 a = a := by
  unfold gI; simp; omega
theorem gI_comm (a b : Int) : gI a b = gI b a := by unfold gI; rw [Nat.gcd_comm]
theorem gI_pos {a b : Int} (h : 0 < a ∨ 0 < b) : 0 < gI a b := by
  unfold gI
  have : 0 < Nat.gcd a.toNat b.toNat := by
    rcases h with h | h
    · exact Nat.gcd_pos_of_pos_left _ (by omega)
    · exact Nat.gcd_pos_of_pos_right _ (by omega)
  omega
theorem gI_le_left {a : Int} (b : Int) (h : 0 < a) : gI a b ≤ a := by
  unfold gI
  have := Nat.gcd_le_left b.toNat (show 0 < a.toNat by omega)
  omega
theorem gI_le_right (a : Int) {b : Int} (h : 0 < b) : gI a b ≤ b := by rw [gI_comm]; exact gI_le_left a h
theorem gI_dvd_left {a b : Int} (ha : 0 ≤ a) : gI a b ∣ a := by
  obtain ⟨a, rfl⟩ := Int.eq_ofNat_of_zero_le ha
  unfold gI; rw [Int.toNat_natCast]; exact Int.natCast_dvd_natCast.2 (Nat.gcd_dvd_left _ _)
theorem gI_dvd_right {a b : Int} (hb : 0 ≤ b) : gI a b ∣ b := by rw [gI_comm]; exact gI_dvd_left hb
theorem dvd_gI {a b d : Int} (ha : 0 ≤ a) (hb : 0 ≤ b) (h1 : d ∣ a) (h2 : d ∣ b) : d ∣ gI a b := by
  obtain ⟨a, rfl⟩ := Int.eq_ofNat_of_zero_le ha
  obtain ⟨b, rfl⟩ := Int.eq_ofNat_of_zero_le hb
  unfold gI
  rw [Int.toNat_natCast, Int.toNat_natCast]
  have h1' := Int.natAbs_dvd_natAbs.2 h1
  have h2' := Int.natAbs_dvd_natAbs.2 h2
  exact Int.natAbs_dvd.1 (Int.natCast_dvd_natCast.2 (Nat.dvd_gcd h1' h2'))
/-- the greatest common divisor of some numbers -/
def gL (l : List Int) : Int := l.foldl gI 0
theorem gL_snoc (l : List Int) (x : Int) : gL (l ++ [x]) = gI (gL l) x := by simp [gL]
theorem gL_nonneg (l : List Int) : 0 ≤ gL l := by
  have : ∀ (l : List Int) (a : Int), 0 ≤ a → 0 ≤ l.foldl gI a := fun l => by
    induction l with
    | nil => exact fun _ h => h
    | cons x l ih => exact fun a _ => ih _ (gI_nonneg _ _)
  exact this l 0 (by omega)
theorem take_snoc_int (l : List Int) (k : Nat) (h : k < l.length) : l.take (k + 1) = l.take k ++ [l[k]] := List.take_succ_eq_append_getElem h
theorem gL_take (l : List Int) (k : Nat) (h : k < l.length) : gL (l.take (k + 1)) = gI (gL (l.take k)) l[k] := by rw [take_snoc_int l k h, gL_snoc]

/-- the sum of a list -/
def sumL (l : List Int) : Int := l.sum
theorem sumL_nil : sumL [] = 0 := rfl
theorem sumL_cons (x : Int) (l : List Int) : sumL (x :: l) = x + sumL l := by simp [sumL]
theorem sumL_append (a b : List Int) : sumL (a ++ b) = sumL a + sumL b := by simp [sumL]
theorem sumL_take (l : List Int) (k : Nat) (h : k < l.length) : sumL (l.take (k + 1)) = sumL (l.take k) + l[k] := by
  rw [take_snoc_int l k h, sumL_append]; simp [sumL]
theorem sumL_nonneg : ∀ {l : List Int}, (∀ x ∈ l, 0 ≤ x) → 0 ≤ sumL l
  | [], _ => by simp [sumL]
  | x :: l, h => by
    have h1 := h x (by simp)
    have h2 := sumL_nonneg (l := l) fun y hy => h y (by simp [hy])
    rw [sumL_cons]; omega
theorem sumL_split (l : List Int) (k : Nat) : sumL l = sumL (l.take k) + sumL (l.drop k) := by rw [← sumL_append, List.take_append_drop]
theorem sumL_take_le {l : List Int} (h : ∀ x ∈ l, 0 ≤ x) (k : Nat) : 0 ≤ sumL (l.take k) ∧ sumL (l.take k) ≤ sumL l := by
  have h1 := sumL_nonneg (l := l.take k) fun x hx => h x (List.mem_of_mem_take hx)
  have h2 := sumL_nonneg (l := l.drop k) fun x hx => h x (List.mem_of_mem_drop hx)
  have := sumL_split l k
  omega
theorem le_sumL {l : List Int} (h : ∀ x ∈ l, 0 ≤ x) {k : Nat} (hk : k < l.length) : l[k] ≤ sumL l := by
  have h1 := sumL_take l k hk
  have h2 := sumL_take_le h k
  have h3 := sumL_take_le h (k + 1)
  omega
/-- the weights are valid -/
def okW (w : List Int) : Bool := w.all (fun x => decide (0 ≤ x)) && decide (1 ≤ sumL w) && decide (sumL w ≤ 1000000000000000)
/-- the error of a list of weights -/
def errW (w : List Int) : Int := if 4096 < w.length then 5 else if okW w then 0 else 2
structure OkW (w : List Int) : Prop where
  len : w.length ≤ 4096
  nn : ∀ x ∈ w, 0 ≤ x
  pos : 1 ≤ sumL w
  le : sumL w ≤ 1000000000000000
theorem okW_iff {w : List Int} : okW w = true ↔ (∀ x ∈ w, 0 ≤ x) ∧ 1 ≤ sumL w ∧ sumL w ≤ 1000000000000000 := by
  simp only [okW, Bool.and_eq_true, List.all_eq_true, decide_eq_true_eq, and_assoc]
theorem errW_zero {w : List Int} : errW w = 0 ↔ OkW w := by
  unfold errW
  constructor
  · intro h
    by_cases h1 : 4096 < w.length
    · rw [if_pos h1] at h; omega
    · rw [if_neg h1] at h
      by_cases h2 : okW w = true
      · obtain ⟨a, b, c⟩ := okW_iff.1 h2; exact ⟨by omega, a, b, c⟩
      · rw [if_neg h2] at h; omega
  · rintro ⟨h1, h2, h3, h4⟩
    rw [if_neg (by omega), if_pos (okW_iff.2 ⟨h2, h3, h4⟩)]
theorem errW_cases (w : List Int) : errW w = 0 ∨ errW w = 2 ∨ errW w = 5 := by
  unfold errW; split
  · simp
  · split <;> simp
theorem OkW.at_ {w : List Int} (h : OkW w) {k : Nat} (hk : k < w.length) : 0 ≤ w[k] ∧ w[k] ≤ 1000000000000000 :=
  ⟨h.nn _ (List.getElem_mem hk), Int.le_trans (le_sumL h.nn hk) h.le⟩
theorem OkW.pos_len {w : List Int} (h : OkW w) : 0 < w.length := by
  rcases Nat.eq_zero_or_pos w.length with h1 | h1
  · have : w = [] := List.eq_nil_of_length_eq_zero h1
    subst this
    have := h.pos; simp [sumL] at this
  · exact h1
/-- the greatest common divisor of nonnegative numbers with a positive one -/
theorem gL_dvd : ∀ (l : List Int), (∀ x ∈ l, 0 ≤ x) → ∀ x ∈ l, gL l ∣ x := by
  have key : ∀ (l : List Int) (a : Int), 0 ≤ a → (∀ x ∈ l, 0 ≤ x) → l.foldl gI a ∣ a ∧ ∀ x ∈ l, l.foldl gI a ∣ x := fun l => by
    induction l with
    | nil => exact fun a _ _ => ⟨Int.dvd_refl _, fun x hx => by cases hx⟩
    | cons y l ih =>
      intro a ha h
      have hy := h y (by simp)
      obtain ⟨h1, h2⟩ := ih (gI a y) (gI_nonneg _ _) fun x hx => h x (by simp [hx])
      refine ⟨Int.dvd_trans h1 (gI_dvd_left ha), fun x hx => ?_⟩
      rcases List.mem_cons.1 hx with rfl | hx
      · exact Int.dvd_trans h1 (gI_dvd_right hy)
      · exact h2 x hx
  exact fun l h => (key l 0 (by omega) h).2
theorem dvd_gL {d : Int} : ∀ (l : List Int), (∀ x ∈ l, 0 ≤ x) → (∀ x ∈ l, d ∣ x) → d ∣ gL l := by
  have key : ∀ (l : List Int) (a : Int), 0 ≤ a → d ∣ a → (∀ x ∈ l, 0 ≤ x) → (∀ x ∈ l, d ∣ x) → d ∣ l.foldl gI a := fun l => by
    induction l with
    | nil => exact fun a _ h _ _ => h
    | cons y l ih =>
      intro a ha hd h h2
      exact ih (gI a y) (gI_nonneg _ _) (dvd_gI ha (h y (by simp)) hd (h2 y (by simp))) (fun x hx => h x (by simp [hx])) (fun x hx => h2 x (by simp [hx]))
  exact fun l h h2 => key l 0 (by omega) (Int.dvd_zero _) h h2
theorem gL_pos {w : List Int} (hn : ∀ x ∈ w, 0 ≤ x) (hp : 1 ≤ sumL w) : 0 < gL w := by
  have h0 := gL_nonneg w
  rcases Int.lt_or_eq_of_le h0 with h | h
  · exact h
  · exfalso
    have hz : ∀ x ∈ w, x = 0 := fun x hx => by
      have := gL_dvd w hn x hx
      rw [← h] at this
      exact Int.zero_dvd.1 this
    have : ∀ l : List Int, (∀ x ∈ l, x = 0) → sumL l = 0 := fun l => by
      induction l with
      | nil => intro _; rfl
      | cons y l ih => intro h; rw [sumL_cons, h y (by simp), ih fun x hx => h x (by simp [hx])]; rfl
    rw [this w hz] at hp; omega
theorem OkW.gpos {w : List Int} (h : OkW w) : 0 < gL w := gL_pos h.nn h.pos
theorem gL_le {w : List Int} (h : OkW w) : gL w ≤ 1000000000000000 := by
  have h1 := h.gpos
  obtain ⟨x, hx, hx2⟩ : ∃ x ∈ w, 0 < x := by
    apply Classical.byContradiction
    intro hno
    have hz : ∀ x ∈ w, x ≤ 0 := fun x hx => Int.not_lt.1 fun hlt => hno ⟨x, hx, hlt⟩
    have : ∀ l : List Int, (∀ x ∈ l, x ≤ 0) → sumL l ≤ 0 := fun l => by
      induction l with
      | nil => intro _; simp [sumL]
      | cons y l ih => intro h; rw [sumL_cons]; have := h y (by simp); have := ih fun x hx => h x (by simp [hx]); omega
    have := this w hz; have := h.pos; omega
  have h2 := Int.le_of_dvd hx2 (gL_dvd w h.nn x hx)
  obtain ⟨k, hk, rfl⟩ := List.mem_iff_getElem.1 hx
  have := (h.at_ hk).2
  omega
/-- weights in lowest terms -/
def lowL (w : List Int) : List Int := w.map fun x => x / gL w
theorem lowL_len (w : List Int) : (lowL w).length = w.length := by simp [lowL]
/-- a fraction in lowest terms -/
def ratN (n d : Int) : Int := n / gI n d
def ratD (n d : Int) : Int := d / gI n d
/-- outcomes below n, in strictly ascending order, from a number on -/
def amongF (n : Int) : Int → List Int → Bool
  | _, [] => true
  | next, k :: l => decide (next ≤ k) && decide (k < n) && amongF n (k + 1) l
def amongB (l : List Int) (n : Int) : Bool := amongF n 0 l
end Go.Proofs.Ytmfbiohdmhbkoaa

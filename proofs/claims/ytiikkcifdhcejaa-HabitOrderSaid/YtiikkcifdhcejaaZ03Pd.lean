/- habit, plain: counts, and the longest run. -/
import Derived.Test.YtiikkcifdhcejaaZ02Go
namespace Go.Proofs.Ytiikkcifdhcejaa

/-- counts behind i casts -/
def cntL (l : List Int) (n : Nat) : Nat → List Int
  | 0 => List.replicate n 0
  | i + 1 => (cntL l n i).set (l.getD i 0).toNat ((cntL l n i).getD (l.getD i 0).toNat 0 + 1)
theorem cntL_len (l : List Int) (n : Nat) : ∀ i, (cntL l n i).length = n
  | 0 => by simp [cntL]
  | i + 1 => by simp [cntL, cntL_len l n i]
theorem cntL_get {l : List Int} {n : Nat} (h : ∀ x ∈ l, 0 ≤ x ∧ x < n) : ∀ i, i ≤ l.length → ∀ y, y < n → (cntL l n i).getD y 0 = cntI (y : Int) (l.take i)
  | 0, _, y, hy => by simp [cntL, cntI, hy]
  | i + 1, hi, y, hy => by
    have hil : i < l.length := by omega
    have hx := h _ (List.getElem_mem hil)
    have hg : l.getD i 0 = l[i] := by simp [hil]
    have ih := cntL_get h i (by omega)
    rw [List.take_succ_eq_append_getElem hil, cntI_snoc]
    simp only [cntL, hg]
    rw [List.getD_eq_getElem?_getD, List.getElem?_set]
    by_cases e : l[i].toNat = y
    · rw [if_pos e, if_pos (by rw [cntL_len]; omega), if_pos (by omega), Option.getD_some, e, ih y hy]
    · rw [if_neg e, ← List.getD_eq_getElem?_getD, ih y hy, if_neg (by omega)]; omega
/-- counts of pairs behind i casts -/
def parL (l : List Int) (n : Nat) : Nat → List Int
  | 0 => List.replicate (n * n) 0
  | i + 1 => if i = 0 then parL l n i else (parL l n i).set ((l.getD (i - 1) 0) * n + l.getD i 0).toNat ((parL l n i).getD ((l.getD (i - 1) 0) * n + l.getD i 0).toNat 0 + 1)
theorem parL_len (l : List Int) (n : Nat) : ∀ i, (parL l n i).length = n * n
  | 0 => by simp [parL]
  | i + 1 => by
    simp only [parL]
    split
    · exact parL_len l n i
    · simp [parL_len l n i]
/-- how many casts on end from place i on are the same -/
def fwd (l : List Int) : Nat → Nat
  | i => ((l.drop i).takeWhile (· == l.getD i 0)).length
/-- where the run of place i begins -/
def beg (l : List Int) : Nat → Nat
  | 0 => 0
  | i + 1 => if l.getD i 0 = l.getD (i + 1) 0 then beg l i else i + 1
theorem beg_le (l : List Int) : ∀ i, beg l i ≤ i
  | 0 => Nat.le_refl _
  | i + 1 => by
    simp only [beg]
    split
    · have := beg_le l i; omega
    · exact Nat.le_refl _
/-- all casts of a run are the same -/
theorem beg_same (l : List Int) : ∀ i j, beg l i ≤ j → j ≤ i → l.getD j 0 = l.getD i 0
  | 0, j, _, h2 => by rw [show j = 0 by omega]
  | i + 1, j, h1, h2 => by
    simp only [beg] at h1
    by_cases e : l.getD i 0 = l.getD (i + 1) 0
    · rw [if_pos e] at h1
      by_cases hj : j = i + 1
      · rw [hj]
      · rw [beg_same l i j h1 (by omega), e]
    · rw [if_neg e] at h1
      rw [show j = i + 1 by omega]
/-- ahead of it stands another one -/
theorem beg_new (l : List Int) : ∀ i, beg l i = 0 ∨ l.getD (beg l i - 1) 0 ≠ l.getD (beg l i) 0
  | 0 => .inl rfl
  | i + 1 => by
    simp only [beg]
    split
    · exact beg_new l i
    · rename_i h; exact .inr (by simpa using h)
theorem fwd_ge {l : List Int} : ∀ {i k : Nat}, (k ≤ fwd l i ↔ ∀ j, j < k → i + j < l.length ∧ l.getD (i + j) 0 = l.getD i 0) := by
  intro i k
  have key : ∀ (m : List Int) (x : Int) (k : Nat), k ≤ (m.takeWhile (· == x)).length ↔ ∀ j, j < k → j < m.length ∧ m.getD j 0 = x := by
    intro m x
    induction m with
    | nil =>
      intro k
      simp only [List.takeWhile_nil, List.length_nil]
      constructor
      · intro h j hj; omega
      · intro h
        rcases Nat.eq_zero_or_pos k with h0 | h0
        · omega
        · have := h 0 h0; omega
    | cons y m ih =>
      intro k
      cases k with
      | zero => exact ⟨fun _ j hj => by omega, fun _ => Nat.zero_le _⟩
      | succ k =>
        rw [List.takeWhile_cons]
        by_cases hy : y = x
        · rw [if_pos (by simpa using hy)]
          simp only [List.length_cons, Nat.add_le_add_iff_right]
          rw [ih k]
          constructor
          · intro h j hj
            cases j with
            | zero => exact ⟨by omega, by simpa using hy⟩
            | succ j => have := h j (by omega); exact ⟨by omega, by simpa using this.2⟩
          · intro h j hj
            have := h (j + 1) (by omega)
            exact ⟨by omega, by simpa using this.2⟩
        · rw [if_neg (by simpa using hy)]
          constructor
          · intro h; simp at h
          · intro h
            have := (h 0 (by omega)).2
            exact absurd (by simpa using this) hy
  unfold fwd
  rw [key]
  constructor
  · intro h j hj
    have := h j hj
    rw [List.length_drop] at this
    exact ⟨by omega, by have h2 := this.2; rw [List.getD_eq_getElem?_getD, List.getElem?_drop, ← List.getD_eq_getElem?_getD] at h2; exact h2⟩
  · intro h j hj
    have := h j hj
    refine ⟨by rw [List.length_drop]; omega, ?_⟩
    rw [List.getD_eq_getElem?_getD, List.getElem?_drop, ← List.getD_eq_getElem?_getD]; exact this.2
/-- the first place with the greatest number among the first k -/
structure BestOk (f : Nat → Nat) (k : Nat) (s n : Nat) : Prop where
  le : ∀ i, i < k → f i ≤ n
  at_ : 0 < n → s < k ∧ f s = n ∧ ∀ i, i < s → f i < n
  zer : n = 0 → s = 0
theorem BestOk.start (f : Nat → Nat) : BestOk f 0 0 0 := ⟨fun i h => by omega, fun h => by omega, fun _ => rfl⟩
theorem BestOk.step {f : Nat → Nat} {k s n : Nat} (h : BestOk f k s n) : BestOk f (k + 1) (if n < f k then k else s) (if n < f k then f k else n) := by
  by_cases e : n < f k
  · rw [if_pos e, if_pos e]
    refine ⟨fun i hi => ?_, fun _ => ⟨by omega, rfl, fun i hi => ?_⟩, fun h0 => by omega⟩
    · by_cases hk : i = k
      · rw [hk]; exact Nat.le_refl _
      · have := h.le i (by omega); omega
    · have := h.le i hi; omega
  · rw [if_neg e, if_neg e]
    refine ⟨fun i hi => ?_, fun hn => ?_, h.zer⟩
    · by_cases hk : i = k
      · rw [hk]; omega
      · exact h.le i (by omega)
    · obtain ⟨h1, h2, h3⟩ := h.at_ hn
      exact ⟨by omega, h2, h3⟩
/-- the program looks at how long a run has got, the document at how long it will get: the first longest run is the same -/
theorem longest_same {l : List Int} {p q n m : Nat} (h1 : BestOk (fun i => i + 1 - beg l i) l.length p n) (h2 : BestOk (fwd l) l.length q m) : n = m ∧ (0 < n → beg l p = q) := by
  have hA : ∀ i, i < l.length → i + 1 - beg l i ≤ fwd l (beg l i) := fun i hi => by
    rw [fwd_ge]
    intro j hj
    have hb := beg_le l i
    refine ⟨by omega, ?_⟩
    rw [beg_same l i (beg l i + j) (by omega) (by omega), beg_same l i (beg l i) (Nat.le_refl _) hb]
  have hB : ∀ j, j < l.length → 0 < fwd l j → ∃ i, i < l.length ∧ i = j + fwd l j - 1 ∧ fwd l j ≤ i + 1 - beg l i := fun j hj hp => by
    have hf := (fwd_ge (l := l) (i := j) (k := fwd l j)).1 (Nat.le_refl _)
    have hlast := hf (fwd l j - 1) (by omega)
    refine ⟨j + fwd l j - 1, by omega, rfl, ?_⟩
    have hbl : ∀ t, t < fwd l j → beg l (j + t) ≤ j := by
      intro t
      induction t with
      | zero => intro _; exact beg_le l j
      | succ t ih =>
        intro ht
        have e1 := (hf t (by omega)).2
        have e2 := (hf (t + 1) (by omega)).2
        show beg l (j + t + 1) ≤ j
        simp only [beg]
        rw [if_pos (by rw [e1]; exact e2.symm)]
        exact ih (by omega)
    have := hbl (fwd l j - 1) (by omega)
    rw [show j + (fwd l j - 1) = j + fwd l j - 1 by omega] at this
    omega
  have hnm : n ≤ m := by
    rcases Nat.eq_zero_or_pos n with h0 | h0
    · omega
    · obtain ⟨a1, a2, _⟩ := h1.at_ h0
      have h3 := hA p a1
      have hb := beg_le l p
      have h4 := h2.le (beg l p) (by omega)
      try simp only at a2
      omega
  have hmn : m ≤ n := by
    rcases Nat.eq_zero_or_pos m with h0 | h0
    · omega
    · obtain ⟨a1, a2, _⟩ := h2.at_ h0
      obtain ⟨i, b1, _, b3⟩ := hB q a1 (by omega)
      have h4 := h1.le i b1
      try simp only at h4
      omega
  refine ⟨by omega, fun hn => ?_⟩
  obtain ⟨a1, a2, a3⟩ := h1.at_ hn
  obtain ⟨c1, c2, c3⟩ := h2.at_ (by omega)
  try simp only at a2 a3
  have hb := beg_le l p
  have hAp := hA p a1
  -- no earlier place of the document's
  rcases Nat.lt_trichotomy (beg l p) q with h | h | h
  · have := c3 (beg l p) h; omega
  · exact h
  · obtain ⟨i, b1, b2, b3⟩ := hB q c1 (by omega)
    have : i < p := by omega
    have := a3 i this
    omega
end Go.Proofs.Ytiikkcifdhcejaa
namespace Go.Proofs.Ytiikkcifdhcejaa

/-- the casts of a round -/
def chunk (l : List Int) (a t : Nat) : List Int := (l.drop (t * a)).take a
/-- the fewest cards behind t rounds -/
def needF (l : List Int) (n a : Nat) : Nat → List Int
  | 0 => List.replicate n 0
  | t + 1 => List.zipWith max (needF l n a t) (cntL (chunk l a t) n (chunk l a t).length)
theorem needF_len (l : List Int) (n a : Nat) : ∀ t, (needF l n a t).length = n
  | 0 => by simp [needF]
  | t + 1 => by simp [needF, needF_len l n a t, cntL_len]
theorem chunk_mem {l : List Int} {a t : Nat} {x : Int} (h : x ∈ chunk l a t) : x ∈ l := List.mem_of_mem_drop (List.mem_of_mem_take h)
theorem needF_le {l : List Int} {n a : Nat} (h : ∀ x ∈ l, 0 ≤ x ∧ x < n) (v : Int) (hv : 0 ≤ v) {y : Nat} (hy : y < n) : ∀ t, (needF l n a t).getD y 0 ≤ v ↔ ∀ j, j < t → cntI (y : Int) (chunk l a j) ≤ v
  | 0 => by simp [needF, hy, hv]
  | t + 1 => by
    have ih := needF_le (a := a) h v hv hy t
    have h1 : y < (needF l n a t).length := by rw [needF_len]; exact hy
    have h2 : y < (cntL (chunk l a t) n (chunk l a t).length).length := by rw [cntL_len]; exact hy
    have hc := cntL_get (l := chunk l a t) (n := n) (fun x hx => h x (chunk_mem hx)) _ (Nat.le_refl _) y hy
    rw [List.take_length] at hc
    have e : (needF l n a (t + 1)).getD y 0 = max ((needF l n a t).getD y 0) (cntI (y : Int) (chunk l a t)) := by
      rw [← hc]
      simp only [needF, List.getD_eq_getElem?_getD, List.getElem?_zipWith, List.getElem?_eq_getElem h1, List.getElem?_eq_getElem h2]
      rfl
    rw [e]
    constructor
    · intro hle j hj
      by_cases ej : j = t
      · rw [ej]; omega
      · exact ih.1 (by omega) j (by omega)
    · intro hall
      have h3 := ih.2 fun j hj => hall j (by omega)
      have h4 := hall t (by omega)
      omega
theorem cntI_take_le (x : Int) : ∀ (l : List Int) (r : Nat), cntI x (l.take r) ≤ cntI x l
  | [], r => by simp
  | y :: l, 0 => by simp only [List.take_zero, cntI]; have := (cntI_bd x l).1; split <;> omega
  | y :: l, r + 1 => by simp only [List.take_succ_cons, cntI]; have := cntI_take_le x l r; omega
/-- the place at which a number occurs once more than v times -/
theorem cntI_place {x v : Int} (hv : 0 ≤ v) : ∀ {l : List Int}, v < cntI x l → ∃ r, r < l.length ∧ l.getD r 0 = x ∧ cntI x (l.take r) = v := by
  have key : ∀ l : List Int, ∀ r, r ≤ l.length → v < cntI x (l.take r) → ∃ q, q < l.length ∧ l.getD q 0 = x ∧ cntI x (l.take q) = v := by
    intro l r
    induction r with
    | zero => intro _ h; simp [cntI] at h; omega
    | succ r ih =>
      intro hr h
      by_cases h2 : v < cntI x (l.take r)
      · exact ih (by omega) h2
      · have hrl : r < l.length := by omega
        have hg : l.getD r 0 = l[r] := by simp [hrl]
        rw [List.take_succ_eq_append_getElem hrl, cntI_snoc] at h
        by_cases e : l[r] = x
        · rw [if_pos e] at h
          exact ⟨r, hrl, by rw [hg, e], by omega⟩
        · rw [if_neg e] at h; omega
  intro l h
  exact key l l.length (Nat.le_refl _) (by rw [List.take_length]; exact h)
theorem chunk_take {l : List Int} {a t r : Nat} (hr : r < a) : (l.take (t * a + r)).drop (t * a) = (chunk l a t).take r := by
  unfold chunk
  rw [List.take_take, Nat.min_eq_left (by omega), List.drop_take, show t * a + r - t * a = r by omega]
/-- a deck excludes no cast just if it has as many cards as are needed -/
theorem deck_need {row l : List Int} {a J : Nat} {k : Int} (hk : k = 3) (ha : 0 < a) (h : ∀ x ∈ l, 0 ≤ x ∧ x < (row.length : Int)) (hrow : ∀ w ∈ row, 0 ≤ w) (hJ : l.length ≤ J * a) :
    (∀ i, i < l.length → (wtI ⟨k, [row], (a : Int)⟩ l i).1 ≠ 0) ↔ ∀ y, y < row.length → (needF l row.length a J).getD y 0 ≤ row.getD y 0 := by
  subst hk
  have hw : ∀ t r, r < a → t * a + r < l.length → (wtI ⟨3, [row], (a : Int)⟩ l (t * a + r)).1 = max 0 (row.getD (l.getD (t * a + r) 0).toNat 0 - cntI (l.getD (t * a + r) 0) ((chunk l a t).take r)) := fun t r hr _ => by
    unfold wtI HMd.row0
    simp only [Int.toNat_natCast]
    rw [if_neg (show ¬ ((3 : Int) = 2 ∧ 0 < t * a + r) from fun e => absurd e.1 (by decide)), if_pos trivial]
    have e : (t * a + r) % a = r := by rw [Nat.mul_comm, Nat.mul_add_mod, Nat.mod_eq_of_lt hr]
    rw [e, show t * a + r - r = t * a by omega, chunk_take hr]
    rfl
  have hcg : ∀ t r, r < (chunk l a t).length → r < a ∧ t * a + r < l.length ∧ (chunk l a t).getD r 0 = l.getD (t * a + r) 0 := fun t r hr => by
    unfold chunk at hr ⊢
    rw [List.length_take, List.length_drop] at hr
    refine ⟨by omega, by omega, ?_⟩
    rw [List.getD_eq_getElem?_getD, List.getElem?_take, if_pos (by omega), List.getElem?_drop, ← List.getD_eq_getElem?_getD]
  have hrg : ∀ y, y < row.length → 0 ≤ row.getD y 0 := fun y hy => by
    have : row.getD y 0 = row[y] := by simp [hy]
    rw [this]; exact hrow _ (List.getElem_mem hy)
  constructor
  · intro hall y hy
    rw [needF_le (by simpa using h) _ (hrg y hy) hy]
    intro j hj
    rcases Int.lt_or_le (row.getD y 0) (cntI (y : Int) (chunk l a j)) with hlt | hle
    · exfalso
      obtain ⟨r, h1, h2, h3⟩ := cntI_place (hrg y hy) hlt
      obtain ⟨g1, g2, g3⟩ := hcg j r h1
      refine hall _ g2 ?_
      rw [hw j r g1 g2, ← g3, h2, h3]
      simp
    · exact hle
  · intro hall i hi
    have hd := Nat.div_add_mod i a
    have hm := Nat.mod_lt i ha
    obtain ⟨t, ht⟩ : ∃ t, t = i / a := ⟨_, rfl⟩
    obtain ⟨r, hr⟩ : ∃ r, r = i % a := ⟨_, rfl⟩
    rw [← ht, ← hr, Nat.mul_comm] at hd
    rw [← hr] at hm
    have hiq : i = t * a + r := by omega
    subst hiq
    rw [hw t r hm hi]
    have hx := h _ (List.getElem_mem hi)
    have hgx : l.getD (t * a + r) 0 = l[t * a + r] := by simp [hi]
    rw [← hgx] at hx
    obtain ⟨y, hye⟩ : ∃ y : Nat, l.getD (t * a + r) 0 = (y : Int) := ⟨(l.getD (t * a + r) 0).toNat, by omega⟩
    have hy : y < row.length := by omega
    have htJ : t < J := by
      rcases Nat.lt_or_ge t J with h9 | h9
      · exact h9
      · have := Nat.mul_le_mul_right a h9; omega
    have h5 := (needF_le (a := a) (by simpa using h) _ (hrg y hy) hy J).1 (hall y hy) t htJ
    have hrc : r < (chunk l a t).length := by
      unfold chunk; rw [List.length_take, List.length_drop]; omega
    obtain ⟨g1, g2, g3⟩ := hcg t r hrc
    have h6 : cntI (y : Int) ((chunk l a t).take (r + 1)) ≤ cntI (y : Int) (chunk l a t) := cntI_take_le _ _ _
    rw [List.take_succ_eq_append_getElem hrc, cntI_snoc] at h6
    have h7 : (chunk l a t)[r] = (y : Int) := by rw [← hye, ← g3]; simp [hrc]
    rw [if_pos h7] at h6
    rw [hye, Int.toNat_natCast]
    omega
end Go.Proofs.Ytiikkcifdhcejaa
namespace Go.Proofs.Ytiikkcifdhcejaa

theorem totI_nn : ∀ {r : List Int}, (∀ w ∈ r, 0 ≤ w) → 0 ≤ totI r
  | [], _ => by simp [totI]
  | w :: r, h => by
    have := totI_nn (r := r) fun x hx => h x (by simp [hx])
    have := h w (by simp)
    simp only [totI]; omega
theorem totI_ge : ∀ {r : List Int} {i : Nat}, (∀ w ∈ r, 0 ≤ w) → r.getD i 0 ≤ totI r
  | [], i, _ => by simp [totI]
  | w :: r, 0, h => by
    have := totI_nn (r := r) fun x hx => h x (by simp [hx])
    simp [totI]; omega
  | w :: r, i + 1, h => by
    have h1 := totI_ge (r := r) (i := i) fun x hx => h x (by simp [hx])
    have h2 := h w (by simp)
    simp only [totI]
    have e : (w :: r).getD (i + 1) 0 = r.getD i 0 := by simp
    rw [e]; omega
theorem totI_le {b : Int} : ∀ {r : List Int}, (∀ w ∈ r, w ≤ b) → totI r ≤ b * r.length
  | [], _ => by simp [totI]
  | w :: r, h => by
    have h1 := totI_le (r := r) fun x hx => h x (by simp [hx])
    have h2 := h w (by simp)
    simp only [totI, List.length_cons]
    rw [Int.natCast_succ, Int.mul_add]; omega
theorem totI_set : ∀ {r : List Int} {i : Nat} (v : Int), i < r.length → totI (r.set i v) = totI r - r.getD i 0 + v
  | w :: r, 0, v, _ => by simp [totI]; omega
  | w :: r, i + 1, v, h => by
    have h1 := totI_set (r := r) (i := i) v (by simpa using h)
    have e : (w :: r).getD (i + 1) 0 = r.getD i 0 := by simp
    simp only [List.set_cons_succ, totI, h1, e]; omega
/-- what holds of a valid model -/
structure ModOk (m : HMd) : Prop where
  n1 : 1 ≤ m.outs
  n32 : m.outs ≤ 32
  row : ∀ r ∈ m.rows, r.length = m.outs ∧ (∀ w ∈ r, 0 ≤ w ∧ w ≤ 1000) ∧ 0 < totI r
  kind : (m.kind = 1 ∧ m.rows.length = 1 ∧ m.after = 0) ∨ (m.kind = 2 ∧ m.rows.length = m.outs + 1 ∧ m.after = 0) ∨ (m.kind = 3 ∧ m.rows.length = 1 ∧ 1 ≤ m.after ∧ m.after ≤ totI m.row0)
theorem modB_iff {m : HMd} : modB m = true ↔ ModOk m := by
  have hrow : ∀ n, m.rows.all (rowB n) = true ↔ ∀ r ∈ m.rows, r.length = n ∧ (∀ w ∈ r, 0 ≤ w ∧ w ≤ 1000) ∧ 0 < totI r := fun n => by
    rw [List.all_eq_true]
    constructor
    · intro h r hr
      have := h r hr
      simp only [rowB, Bool.and_eq_true, decide_eq_true_eq, List.all_eq_true] at this
      exact ⟨this.1.1, this.1.2, this.2⟩
    · intro h r hr
      obtain ⟨h1, h2, h3⟩ := h r hr
      simp only [rowB, Bool.and_eq_true, decide_eq_true_eq, List.all_eq_true]
      exact ⟨⟨h1, h2⟩, h3⟩
  unfold modB
  rw [Bool.and_eq_true, Bool.and_eq_true, hrow, decide_eq_true_eq]
  constructor
  · rintro ⟨⟨⟨h1, h2⟩, h3⟩, h4⟩
    refine ⟨h1, h2, h3, ?_⟩
    by_cases k1 : m.kind = 1
    · rw [if_pos k1] at h4; exact .inl ⟨k1, by simpa using h4⟩
    · rw [if_neg k1] at h4
      by_cases k2 : m.kind = 2
      · rw [if_pos k2] at h4; exact .inr (.inl ⟨k2, by simpa using h4⟩)
      · rw [if_neg k2] at h4
        by_cases k3 : m.kind = 3
        · rw [if_pos k3] at h4; exact .inr (.inr ⟨k3, by simpa using h4⟩)
        · rw [if_neg k3] at h4; cases h4
  · rintro ⟨h1, h2, h3, h4⟩
    refine ⟨⟨⟨h1, h2⟩, h3⟩, ?_⟩
    rcases h4 with ⟨k, h⟩ | ⟨k, h⟩ | ⟨k, h⟩
    · rw [if_pos k]; simpa using h
    · rw [if_neg (by omega), if_pos k]; simpa using h
    · rw [if_neg (by omega), if_neg (by omega), if_pos k]; simpa using h
theorem ModOk.rows0 {m : HMd} (h : ModOk m) : ∃ r t, m.rows = r :: t := by
  have := h.n1
  unfold HMd.outs at this
  cases hr : m.rows with
  | nil => rw [hr] at this; simp at this
  | cons r t => exact ⟨r, t, rfl⟩
theorem ModOk.row0_mem {m : HMd} (h : ModOk m) : m.row0 ∈ m.rows := by
  obtain ⟨r, t, e⟩ := h.rows0
  unfold HMd.row0
  rw [e]; simp
/-- a row behind an outcome is one of the model's -/
theorem ModOk.next_mem {m : HMd} (h : ModOk m) (hk : m.kind = 2) {x : Int} (h0 : 0 ≤ x) (h1 : x < m.outs) : m.rows.getD (x + 1).toNat [] ∈ m.rows := by
  have hl : m.rows.length = m.outs + 1 := by
    rcases h.kind with ⟨k, _⟩ | ⟨_, k, _⟩ | ⟨k, _⟩
    · omega
    · exact k
    · omega
  have hi : (x + 1).toNat < m.rows.length := by omega
  have e : m.rows.getD (x + 1).toNat [] = m.rows[(x + 1).toNat] := by simp [hi]
  rw [e]; exact List.getElem_mem hi
/-- a register of a model's outcomes -/
def regB (n : Nat) (l : List Int) : Prop := ∀ x ∈ l, 0 ≤ x ∧ x < (n : Int)
theorem regB.at_ {n : Nat} {l : List Int} (h : regB n l) {i : Nat} (hi : i < l.length) : 0 ≤ l.getD i 0 ∧ l.getD i 0 < (n : Int) := by
  have : l.getD i 0 = l[i] := by simp [hi]
  rw [this]; exact h _ (List.getElem_mem hi)
/-- weights and sums are small -/
theorem wtI_bd {m : HMd} (h : ModOk m) {l : List Int} (hl : regB m.outs l) {i : Nat} (hi : i < l.length) : 0 ≤ (wtI m l i).1 ∧ (wtI m l i).1 ≤ 1000 ∧ 1 ≤ (wtI m l i).2 ∧ (wtI m l i).2 ≤ 32000 := by
  have hx := hl.at_ hi
  have hrow : ∀ r ∈ m.rows, ∀ j : Nat, j < m.outs → 0 ≤ r.getD j 0 ∧ r.getD j 0 ≤ 1000 := fun r hr j hj => by
    obtain ⟨h1, h2, _⟩ := h.row r hr
    have e : r.getD j 0 = r[j]'(by omega) := by simp [show j < r.length by omega]
    rw [e]; exact h2 _ (List.getElem_mem _)
  have htot : ∀ r ∈ m.rows, 1 ≤ totI r ∧ totI r ≤ 32000 := fun r hr => by
    obtain ⟨h1, h2, h3⟩ := h.row r hr
    have h4 := totI_le (b := 1000) (r := r) fun w hw => (h2 w hw).2
    have := h.n32
    rw [h1] at h4
    omega
  have hxn : (l.getD i 0).toNat < m.outs := by omega
  unfold wtI
  simp only
  by_cases k2 : m.kind = 2 ∧ 0 < i
  · rw [if_pos k2]
    have hp := hl.at_ (i := i - 1) (by omega)
    have hm := h.next_mem k2.1 hp.1 hp.2
    have a := hrow _ hm _ hxn; have b := htot _ hm
    exact ⟨a.1, a.2, b.1, b.2⟩
  · rw [if_neg k2]
    by_cases k3 : m.kind = 3
    · rw [if_pos k3]
      have a := hrow _ h.row0_mem _ hxn; have b := htot _ h.row0_mem
      have hka : 1 ≤ m.after ∧ m.after ≤ totI m.row0 := by
        rcases h.kind with ⟨k, _⟩ | ⟨k, _⟩ | ⟨_, _, k⟩
        · omega
        · omega
        · exact k
      have hc := (cntI_bd (l.getD i 0) ((l.take i).drop (i - i % m.after.toNat))).1
      have hmod : i % m.after.toNat < m.after.toNat := Nat.mod_lt _ (by omega)
      simp only
      refine ⟨by omega, by omega, by omega, by omega⟩
    · rw [if_neg k3]
      have a := hrow _ h.row0_mem _ hxn; have b := htot _ h.row0_mem
      exact ⟨a.1, a.2, b.1, b.2⟩
/-- the cards that are left add up -/
structure HPos (m : HMd) (s : HSt) : Prop where
  lt : s.aside < m.after.toNat
  len : s.aside ≠ 0 → s.left.length = m.outs
  tot : s.aside ≠ 0 → totI s.left = totI m.row0 - s.aside
  nn : s.aside ≠ 0 → ∀ w ∈ s.left, 0 ≤ w
/-- as long as no cast is excluded, a weight is no greater than the sum -/
theorem HPos.cast {m : HMd} (h : ModOk m) {s : HSt} (hs : HPos m s) (hk : m.kind = 3) {x : Int} (hx : 0 ≤ x ∧ x < m.outs) : (s.cast m x).2.1 ≤ (s.cast m x).2.2 ∧ ((s.cast m x).2.1 ≠ 0 → HPos m (s.cast m x).1) := by
  obtain ⟨r1, r2, r3⟩ := h.row _ h.row0_mem
  have hka : 1 ≤ m.after ∧ m.after ≤ totI m.row0 := by
    rcases h.kind with ⟨k, _⟩ | ⟨k, _⟩ | ⟨_, _, k⟩
    · omega
    · omega
    · exact k
  obtain ⟨L, hL⟩ : ∃ L, L = if s.aside = 0 then m.row0 else s.left := ⟨_, rfl⟩
  have hlen : L.length = m.outs := by
    rw [hL]; split
    · exact r1
    · rename_i h0; exact hs.len h0
  have htot : totI L = totI m.row0 - s.aside := by
    rw [hL]; split
    · rename_i h0; omega
    · rename_i h0; exact hs.tot h0
  have hnn : ∀ w ∈ L, 0 ≤ w := by
    rw [hL]; split
    · exact fun w hw => (r2 w hw).1
    · rename_i h0; exact hs.nn h0
  have hxl : x.toNat < L.length := by omega
  have hge := totI_ge (i := x.toNat) hnn
  have hg0 : 0 ≤ L.getD x.toNat 0 := by
    have e : L.getD x.toNat 0 = L[x.toNat] := by simp [hxl]
    rw [e]; exact hnn _ (List.getElem_mem hxl)
  unfold HSt.cast
  simp only [if_neg (show ¬ m.kind = 2 by omega), if_pos hk, ← hL]
  have hlt := hs.lt
  have h8 : (s.aside + 1) % m.after.toNat ≠ 0 → (s.aside + 1) % m.after.toNat = s.aside + 1 := fun h9 => by
    have h7 : s.aside + 1 < m.after.toNat ∨ s.aside + 1 = m.after.toNat := by omega
    rcases h7 with h7 | h7
    · exact Nat.mod_eq_of_lt h7
    · rw [h7, Nat.mod_self] at h9; exact absurd rfl h9
  have hmx : max (L.getD x.toNat 0) 0 = L.getD x.toNat 0 := by omega
  refine ⟨by omega, fun hne => ⟨Nat.mod_lt _ (by omega), fun _ => by simp [hlen], fun h9 => ?_, fun _ w hw => ?_⟩⟩
  · show totI (L.set x.toNat (L.getD x.toNat 0 - 1)) = totI m.row0 - (((s.aside + 1) % m.after.toNat : Nat) : Int)
    rw [totI_set _ hxl, htot, h8 h9]
    omega
  · rw [hmx] at hne
    rcases List.mem_or_eq_of_mem_set hw with hw | rfl
    · exact hnn w hw
    · omega
end Go.Proofs.Ytiikkcifdhcejaa

/- The law SchoolTotal: the plain law. -/
import Derived.Test.YtidlmbajpbbilaaAdA
import Derived.Test.YtidlmbajpbbilaaChA
import Derived.Test.YtidlmbajpbbilaaLwA
namespace Go.Proofs.Ytidlmbajpbbilaa
open Go.RowKit

theorem numN_snoc (sg : Int) (l : List Int) (x : Int) : numN sg (l ++ [x]) = numN sg l * sg + x := by simp [numN]
/-- every list of figures is a chart by its number -/
theorem digits_num {sg : Int} (hs : 1 ≤ sg) : ∀ (p : Nat) (l : List Int), l.length = p → (∀ x ∈ l, 0 ≤ x ∧ x < sg) → chartsN sg p ≤ 4096 → 0 ≤ numN sg l ∧ numN sg l < chartsN sg p ∧ digits sg p (numN sg l) = l
  | 0, l, hl, _, _ => by
    obtain rfl : l = [] := List.eq_nil_of_length_eq_zero hl
    exact ⟨by simp [numN], by simp [numN, chartsN], rfl⟩
  | p + 1, l, hl, hb, hc => by
    have hne : l ≠ [] := fun e => by rw [e] at hl; simp at hl
    obtain ⟨r, x, rfl⟩ : ∃ r x, l = r ++ [x] := ⟨l.dropLast, l.getLast hne, (List.dropLast_concat_getLast hne).symm⟩
    have hr : r.length = p := by simpa using hl
    have hx := hb x (by simp)
    have hbd := chartsN_bd sg hs p
    have hc2 : chartsN sg (p + 1) = min (chartsN sg p * sg) 4097 := rfl
    have hc3 : chartsN sg (p + 1) = chartsN sg p * sg := by rw [hc2] at hc ⊢; omega
    have hc4 : chartsN sg p ≤ 4096 := by
      have h1 : chartsN sg p * 1 ≤ chartsN sg p * sg := Int.mul_le_mul_of_nonneg_left hs (by omega)
      omega
    obtain ⟨h0, h1, h2⟩ := digits_num hs p r hr (fun y hy => hb y (by simp [hy])) hc4
    rw [numN_snoc]
    have hm : (numN sg r + 1) * sg ≤ chartsN sg p * sg := Int.mul_le_mul_of_nonneg_right (by omega) (by omega)
    have hm2 : (numN sg r + 1) * sg = numN sg r * sg + sg := by rw [Int.add_mul, Int.one_mul]
    have hm0 : 0 ≤ numN sg r * sg := Int.mul_nonneg h0 (by omega)
    refine ⟨by omega, by omega, ?_⟩
    have hd : (numN sg r * sg + x) / sg = numN sg r := by
      rw [Int.add_comm, Int.add_mul_ediv_right _ _ (by omega), Int.ediv_eq_zero_of_lt hx.1 hx.2, Int.zero_add]
    have hmo : (numN sg r * sg + x) % sg = x := by
      rw [Int.add_comm, Int.add_mul_emod_self_right, Int.emod_eq_of_lt hx.1 hx.2]
    simp only [digits, hd, hmo, h2]
theorem bit_fits {sg x f : Int} (hs : 0 ≤ sg) (hx : 0 ≤ x) (hf : 0 ≤ f) (h : fitsB sg x = true) (hb : bitB x f = true) : f < sg := by
  rcases Int.lt_or_le f sg with h1 | h1
  · exact h1
  · exfalso
    simp only [fitsB, decide_eq_true_eq] at h
    have hp : (0 : Int) < 2 ^ sg.toNat := Int.pow_pos (by omega)
    have h2 : x < 2 ^ sg.toNat := by
      have := Int.lt_mul_ediv_self_add (x := x) hp
      rw [h] at this; simpa using this
    rw [bitB_test hx] at hb
    have h3 : x.toNat < 2 ^ f.toNat := by
      have h4 : (2 : Nat) ^ sg.toNat ≤ 2 ^ f.toNat := Nat.pow_le_pow_right (by omega) (by omega)
      have h5 : (x.toNat : Int) < ((2 ^ sg.toNat : Nat) : Int) := by
        rw [Int.toNat_of_nonneg hx]; simpa using h2
      omega
    rw [Nat.testBit_lt_two_pow h3] at hb
    cases hb
theorem hasB_picked : ∀ (l ch : List Int), ch.length = l.length → (∀ i : Nat, (h : i < ch.length) → ∃ h' : i < l.length, bitB l[i] ch[i] = true) → hasB l ch = true
  | [], ch, _, _ => by cases ch <;> rfl
  | x :: l, [], h, _ => by simp at h
  | x :: l, f :: ch, h, hb => by
    simp only [hasB, Bool.and_eq_true]
    refine ⟨?_, hasB_picked l ch (by simpa using h) fun i hi => ?_⟩
    · obtain ⟨_, h1⟩ := hb 0 (by simp); simpa using h1
    · obtain ⟨h', h1⟩ := hb (i + 1) (by simpa using hi)
      exact ⟨by simpa using h', by simpa using h1⟩
theorem hasB_get : ∀ (l ch : List Int), ch.length = l.length → hasB l ch = true → ∀ i : Nat, (h : i < ch.length) → (h' : i < l.length) → bitB l[i] ch[i] = true
  | [], ch, h, _, i, hi, _ => by simp at h; subst h; simp at hi
  | x :: l, [], h, _, _, _, _ => by simp at h
  | x :: l, f :: ch, h, hb, 0, _, _ => by
    simp only [hasB, Bool.and_eq_true] at hb; simpa using hb.1
  | x :: l, f :: ch, h, hb, i + 1, hi, hi' => by
    simp only [hasB, Bool.and_eq_true] at hb
    have := hasB_get l ch (by simpa using h) hb.2 i (by simpa using hi) (by simpa using hi')
    simpa using this
/-- a list of figures of a region is the chart with a number, and lies in the region -/
theorem picked_chart {s : Sch} (hv : schB s = true) (V : Valid s) {sets L : List Int} (ho : ∀ x ∈ sets, IsU64 x) (hr : regB s sets = true) (hl : L.length = sets.length) (hp : Picked sets L) :
    chartB s L = true ∧ ∃ k : Nat, k < chartsC s ∧ chartL s k = L ∧ inR s sets k = true := by
  simp only [regB, Bool.and_eq_true, decide_eq_true_eq, List.all_eq_true] at hr
  have hsg := V.signs
  have hb : ∀ x ∈ L, 0 ≤ x ∧ x < s.signs := fun x hx => by
    obtain ⟨i, hi, rfl⟩ := List.mem_iff_getElem.1 hx
    obtain ⟨h', h1, h2, h3⟩ := hp i hi
    exact ⟨h1, bit_fits (by omega) (ho _ (List.getElem_mem h')).1 h1 (hr.2 _ (List.getElem_mem h')) h3⟩
  have hpl : L.length = s.places.toNat := by omega
  obtain ⟨h0, h1, h2⟩ := digits_num (by omega) s.places.toNat L hpl hb V.charts
  have hk : (((numN s.signs L).toNat : Nat) : Int) = numN s.signs L := Int.toNat_of_nonneg h0
  have hch : chartL s (((numN s.signs L).toNat : Nat) : Int) = L := by rw [hk]; exact h2
  refine ⟨?_, (numN s.signs L).toNat, by unfold chartsC; omega, hch, ?_⟩
  · simp only [chartB, Bool.and_eq_true, decide_eq_true_eq, List.all_eq_true, inB_iff]
    have := V.places
    refine ⟨by omega, fun x hx => by have := hb x hx; omega⟩
  · simp only [inR, hch]
    exact hasB_picked sets L hl fun i hi => by obtain ⟨h', h3, h4, h5⟩ := hp i hi; exact ⟨h', h5⟩
/-- broken: what a claim asks of a reading -/
def brk (tt cc : Bool) (kd : Int) : Bool := (tt && kd == 2) || (cc && kd == 3)
theorem kind_len {l : List Nat} : (kindOf l = 2 ↔ l.length = 0) ∧ (kindOf l = 1 ↔ l.length = 1) ∧ (kindOf l = 3 ↔ 1 < l.length) := by
  unfold kindOf; split
  · omega
  · split <;> omega
theorem read_len (s : Sch) (kind : Int) (k : Nat) : (bitsOf (ansN s 0 kind (chartL s k))).length = (ansL s kind k).length := by rw [bitsOf_ans, List.length_map]; rfl
theorem badC_brk {s : Sch} {q : Clm} {k : Nat} (h : inR s q.sets k = true) : badC s q k = brk q.total q.clear (kdAt s q.kind k) := by simp [badC, h, brk]
/-- how chart number k is read, whatever its list -/
theorem readR_at {s : Sch} (hv : schB s = true) {kind : Int} (hk : inB kind 0 (s.kinds - 1) = true) {ch : List Int} (hc : chartB s ch = true) {k : Nat} (e : chartL s k = ch) : ∃ RQ RM, readR s ch kind = (kdAt s kind k, RQ, RM, 0) ∧ RQ.length = (ansL s kind k).length := by
  subst e
  refine ⟨bitsOf (ansN s 0 kind (chartL s k)), bitsOf (mainN s 0 kind (chartL s k)), ?_, read_len s kind k⟩
  simp only [readR, hv, hc, hk, if_true]
  rfl
theorem chartB_at {s : Sch} (V : Valid s) (k : Nat) : chartB s (chartL s k) = true := by
  have hl : (chartL s k).length = s.places.toNat := digits_len _ _ _
  have := V.places
  simp only [chartB, Bool.and_eq_true, decide_eq_true_eq, List.all_eq_true, inB_iff]
  refine ⟨by omega, fun x hx => ?_⟩
  have := digits_bd V.signs.1 _ _ x hx
  omega
theorem firstIdx_hit {α : Type} {p : α → Bool} {l : List α} {n : Nat} (h : firstIdx p l = (n : Int)) (hn : n < l.length) : p l[n] = true := by
  have : ∀ (l : List α) (k n : Nat) (hn : n < l.length), firstFrom p l k = ((k + n : Nat) : Int) → p l[n] = true := by
    intro l
    induction l with
    | nil => intro k n hn; cases hn
    | cons x l ih =>
      intro k n hn h
      simp only [firstFrom] at h
      by_cases hp : p x = true
      · rw [if_pos hp] at h
        obtain rfl : n = 0 := by omega
        exact hp
      · rw [if_neg hp] at h
        cases n with
        | zero =>
          exfalso
          rcases Int.lt_or_le (firstFrom p l (k + 1)) 0 with h1 | h1
          · omega
          · have h2 : ∀ (l : List α) (k : Nat), 0 ≤ firstFrom p l k → (k : Int) ≤ firstFrom p l k := by
              intro l
              induction l with
              | nil => intro k h; simp [firstFrom] at h
              | cons y l ih2 =>
                intro k h
                simp only [firstFrom] at h ⊢
                split
                · omega
                · rename_i hq; rw [if_neg hq] at h; have := ih2 (k + 1) h; omega
            have := h2 l (k + 1) h1
            omega
        | succ n =>
          exact ih (k + 1) n (by simpa using hn) (by rw [h]; congr 1; omega)
  exact this l 0 n hn (by rw [Nat.zero_add]; exact h)
theorem kd_cases {s : Sch} {kind kd : Int} {k : Nat} {RQ : List Int} (h : kd = kdAt s kind k) (hl : RQ.length = (ansL s kind k).length) : (kd = 2 ∧ RQ.length = 0) ∨ (kd = 1 ∧ RQ.length = 1) ∨ (kd = 3 ∧ 1 < RQ.length) := by
  obtain ⟨h1, h2, h3⟩ := kind_len (l := ansL s kind k)
  rw [h, hl]
  rcases kindOf_cases (ansL s kind k) with e | e | e
  · exact .inl ⟨e, h1.1 e⟩
  · exact .inr (.inr ⟨e, h3.1 e⟩)
  · exact .inr (.inl ⟨e, h2.1 e⟩)
theorem keeps_err {s : Sch} {q : Clm} {x1 x2 er : Int} (h : keepsR s [q] = (x1, x2, er)) (he : er ≠ 0) : x1 = 0 ∧ x2 = 0 := by
  unfold keepsR at h
  split at h
  · split at h
    · split at h
      · simp only [Prod.mk.injEq] at h; exact absurd h.2.2.symm he
      · simp only [Prod.mk.injEq] at h; exact ⟨h.1.symm, h.2.1.symm⟩
    · simp only [Prod.mk.injEq] at h; exact ⟨h.1.symm, h.2.1.symm⟩
  · simp only [Prod.mk.injEq] at h; exact ⟨h.1.symm, h.2.1.symm⟩
theorem keeps_one {s : Sch} {q : Clm} {x1 x2 er : Int} (h : keepsR s [q] = (x1, x2, er)) (he : er = 0) : schB s = true ∧ inB q.kind 0 (s.kinds - 1) = true ∧ regB s q.sets = true ∧
    ((∃ k : Nat, x1 = 0 ∧ x2 = (k : Int) ∧ k < chartsC s ∧ inR s q.sets k = true ∧ brk q.total q.clear (kdAt s q.kind k) = true) ∨ (x1 = -1 ∧ x2 = -1 ∧ ∀ k, k < chartsC s → badC s q k = false)) := by
  subst he
  unfold keepsR at h
  split at h
  · rename_i hv
    split at h
    · split at h
      · rename_i hE
        have hc := claimsE_zero hE q (by simp)
        refine ⟨hv, hc.1, hc.2, ?_⟩
        simp only [keepsI, Prod.mk.injEq] at h
        by_cases hf : 0 ≤ firstN (badC s q) (chartsC s)
        · rw [if_pos hf] at h
          obtain ⟨k, hk, he⟩ := firstIdx_lt (p := badC s q) (l := List.range (chartsC s)) hf
          rw [List.length_range] at hk
          have he' : firstN (badC s q) (chartsC s) = (k : Int) := he
          have hb : badC s q k = true := by
            cases hb : badC s q k with
            | true => rfl
            | false =>
              exfalso
              have h1 := firstIdx_hit (p := badC s q) (l := List.range (chartsC s)) he (by simpa using hk)
              simp [hb] at h1
          have hin : inR s q.sets k = true := by
            unfold badC at hb; simp only [Bool.and_eq_true] at hb; exact hb.1
          refine .inl ⟨k, h.1.symm, by rw [← h.2.1, he'], hk, hin, ?_⟩
          rw [← badC_brk hin]; exact hb
        · rw [if_neg hf] at h
          refine .inr ⟨h.1.symm, h.2.1.symm, fun k hk => ?_⟩
          have h1 : firstN (badC s q) (chartsC s) = -1 := firstIdx_neg hf
          exact cnt_zero.1 (firstN_neg.1 h1) k hk
      · simp only [Prod.mk.injEq] at h
        rename_i hE
        exact absurd h.2.2 hE
    · simp only [Prod.mk.injEq] at h; exact absurd h.2.2 (by decide)
  · simp only [Prod.mk.injEq] at h; exact absurd h.2.2 (by decide)
theorem chartsC_i {s : Sch} (V : Valid s) : ((chartsC s : Nat) : Int) = chartsN s.signs s.places.toNat := by
  have := chartsN_bd s.signs V.signs.1 s.places.toNat
  unfold chartsC; omega
end Go.Proofs.Ytidlmbajpbbilaa

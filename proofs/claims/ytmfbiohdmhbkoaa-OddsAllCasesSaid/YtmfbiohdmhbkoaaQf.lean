/- Plain: ALL CASES (OddsAllCases). -/
import Derived.Test.YtmfbiohdmhbkoaaQd
import Derived.Test.YtmfbiohdmhbkoaaPu
namespace Go.Proofs.Ytmfbiohdmhbkoaa

/-- the sum of f over the numbers below k that are mapped to j -/
def mS (to : List Int) (j : Nat) (f : Nat → Int) : Nat → Int
  | 0 => 0
  | k + 1 => mS to j f k + if (to.getD k 0).toNat = j then f k else 0
theorem mS_mul (to : List Int) (j : Nat) (f : Nat → Int) (r : Int) : ∀ k, mS to j (fun p => f p * r) k = mS to j f k * r
  | 0 => by simp [mS]
  | k + 1 => by simp only [mS, mS_mul to j f r k, Int.add_mul]; split <;> simp
theorem mS_congr {to : List Int} {j : Nat} {f g : Nat → Int} : ∀ {k}, (∀ p, p < k → f p = g p) → mS to j f k = mS to j g k
  | 0, _ => rfl
  | k + 1, h => by simp only [mS, mS_congr (k := k) fun p hp => h p (by omega), h k (by omega)]
theorem mS_add (to : List Int) (j : Nat) (f g : Nat → Int) : ∀ k, mS to j (fun p => f p + g p) k = mS to j f k + mS to j g k
  | 0 => rfl
  | k + 1 => by simp only [mS, mS_add to j f g k]; split <;> omega
theorem mS_zero (to : List Int) (j : Nat) : ∀ k, mS to j (fun _ => 0) k = 0
  | 0 => rfl
  | k + 1 => by simp only [mS, mS_zero to j k]; split <;> rfl
theorem mS_swap (to : List Int) (j : Nat) (f : Nat → Nat → Int) (k : Nat) : ∀ n, mS to j (fun p => sumV (f p) (fun _ => true) n) k = sumV (fun i => mS to j (fun p => f p i) k) (fun _ => true) n
  | 0 => by simp only [sumV]; exact mS_zero to j k
  | n + 1 => by
    simp only [sumV, if_true]
    rw [mS_add, mS_swap to j f k n]
theorem mapTo_get {w to : List Int} {n : Nat} (ht : ∀ x ∈ to, 0 ≤ x ∧ x < n) {j : Nat} (hj : j < n) : ∀ k, k ≤ to.length → (mapTo w to n k).getD j 0 = mS to j (fun p => w.getD p 0) k
  | 0, _ => by
    simp only [mapTo, mS]
    rw [List.getD_eq_getElem?_getD, List.getElem?_replicate]; split <;> rfl
  | k + 1, hk => by
    have ih := mapTo_get (w := w) ht hj k (by omega)
    have e := ht _ (List.getElem_mem (show k < to.length by omega))
    have e1 : to.getD k 0 = to[k]'(by omega) := by simp [show k < to.length by omega]
    simp only [mapTo, mS, bump]
    rw [List.getD_eq_getElem?_getD, List.getElem?_set]
    by_cases h : (to.getD k 0).toNat = j
    · rw [if_pos h, if_pos (by rw [mapTo_len, h]; exact hj), if_pos h]
      simp only [Option.getD_some]
      rw [h, ih]
    · rw [if_neg h, if_neg h, ← List.getD_eq_getElem?_getD, ih]; omega
theorem sumV_mulr (f : Nat → Int) (vis : Nat → Bool) (r : Int) : ∀ n, sumV (fun i => f i * r) vis n = sumV f vis n * r
  | 0 => by simp [sumV]
  | n + 1 => by simp only [sumV, sumV_mulr f vis r n, Int.add_mul]; split <;> simp
/-- the least common multiple divides each common one -/
theorem lcm_dvd {m t x : Int} (hm : 1 ≤ m) (ht : 1 ≤ t) (h1 : m ∣ x) (h2 : t ∣ x) : m * (t / gI m t) ∣ x := by
  obtain ⟨m, rfl⟩ := Int.eq_ofNat_of_zero_le (show 0 ≤ m by omega)
  obtain ⟨t, rfl⟩ := Int.eq_ofNat_of_zero_le (show 0 ≤ t by omega)
  unfold gI
  rw [Int.toNat_natCast, Int.toNat_natCast, ← Int.natCast_ediv, ← Int.natCast_mul]
  have e : m * (t / Nat.gcd m t) = Nat.lcm m t := by
    unfold Nat.lcm; rw [Nat.mul_div_assoc _ (Nat.gcd_dvd_right m t)]
  rw [e]
  have k1 := Int.natAbs_dvd_natAbs.2 h1
  have k2 := Int.natAbs_dvd_natAbs.2 h2
  rw [Int.natAbs_natCast] at k1 k2
  exact Int.dvd_natAbs.1 (Int.natCast_dvd_natCast.2 (Nat.lcm_dvd k1 k2))
theorem map4_ok {w to : List Int} (ok : OkW w) (hl : to.length = w.length) (ht : ∀ x ∈ to, 0 ≤ x ∧ x < (4 : Nat)) : OkW (mapTo w to 4 w.length) ∧ sumL (mapTo w to 4 w.length) = sumL w ∧ (mapTo w to 4 w.length).length = 4 := by
  have hs := mapTo_sum ht hl w.length (Nat.le_refl _)
  rw [List.take_length] at hs
  exact ⟨⟨by rw [mapTo_len]; omega, mapTo_nn ok.nn _, by rw [hs]; exact ok.pos, by rw [hs]; exact ok.le⟩, hs, mapTo_len _ _ _ _⟩
theorem mS_dvd {to : List Int} {j : Nat} {f : Nat → Int} {d : Int} : ∀ {k}, (∀ p, p < k → d ∣ f p) → d ∣ mS to j f k
  | 0, _ => Int.dvd_zero _
  | k + 1, h => by
    simp only [mS]
    refine Int.dvd_add (mS_dvd fun p hp => h p (by omega)) ?_
    split
    · exact h k (by omega)
    · exact Int.dvd_zero _
/-- the sum in lowest terms of what is mapped divides that of the list -/
theorem map4_dvd {w to : List Int} (ok : OkW w) (hl : to.length = w.length) (ht : ∀ x ∈ to, 0 ≤ x ∧ x < (4 : Nat)) : sumL (lowL (mapTo w to 4 w.length)) ∣ sumL (lowL w) := by
  obtain ⟨okm, hs, hlen⟩ := map4_ok ok hl ht
  have g1 : gL w ∣ gL (mapTo w to 4 w.length) := by
    refine dvd_gL _ okm.nn fun x hx => ?_
    obtain ⟨j, hj, rfl⟩ := List.mem_iff_getElem.1 hx
    rw [hlen] at hj
    have e := mapTo_get (w := w) ht (j := j) hj w.length (by omega)
    rw [List.getD_eq_getElem?_getD, List.getElem?_eq_getElem (by rw [hlen]; exact hj)] at e
    simp only [Option.getD_some] at e
    rw [e]
    exact mS_dvd fun p hp => by
      have : w.getD p 0 = w[p] := by simp [hp]
      rw [this]; exact gL_dvd w ok.nn _ (List.getElem_mem hp)
  obtain ⟨q, hq⟩ := g1
  have e1 := sum_low ok
  have e2 := sum_low okm
  rw [hs, ← e1, hq] at e2
  have gp := ok.gpos
  refine ⟨q, ?_⟩
  apply Int.eq_of_mul_eq_mul_left (a := gL w) (by omega)
  rw [← e2]; ac_rfl
section
variable {c : List Int} {ls ms : List (List Int)} {len : Nat} {to : List Int}
/-- the lists are mapped -/
structure Mapd (ls ms : List (List Int)) (to : List Int) : Prop where
  len : ms.length = ls.length
  eq : ∀ i, i < ls.length → ms.getD i [] = mapTo (ls.getD i []) to 4 (ls.getD i []).length
theorem com_map (h : MixOk c ls len) (hm : Mapd ls ms to) (hl : to.length = len) (ht : ∀ x ∈ to, 0 ≤ x ∧ x < (4 : Nat)) : ∀ k, k ≤ ls.length → ∀ m, comTo c ls k = some m → ∃ m', comTo c ms k = some m' ∧ 1 ≤ m' ∧ m' ∣ m
  | 0, _, m, e => by simp [comTo] at e; subst e; exact ⟨1, rfl, by omega, Int.dvd_refl _⟩
  | k + 1, hk, m, e => by
    simp only [comTo] at e ⊢
    cases hp : comTo c ls k with
    | none => rw [hp] at e; cases e
    | some n =>
      rw [hp] at e
      obtain ⟨n', e', n1, nd⟩ := com_map h hm hl ht k (by omega) n hp
      obtain ⟨b1, b2, _⟩ := comTo_ok h k (by omega) n hp
      rw [e']
      by_cases hc : c.getD k 0 = 0
      · simp only [if_pos hc] at e ⊢
        cases e
        exact ⟨n', rfl, n1, nd⟩
      · simp only [if_neg hc] at e ⊢
        have ok := h.ok k (by omega)
        have hlk := h.eq k (by omega)
        rw [hm.eq k (by omega)]
        obtain ⟨okm, _, _⟩ := map4_ok ok (by omega) ht
        have dv := map4_dvd ok (by omega) ht
        have t1 := (low_ok ok).pos
        have t1' := (low_ok okm).pos
        obtain ⟨a1, a2, a3, a4, a5⟩ := com_step b1 t1
        obtain ⟨c1, c2, c3, c4, c5⟩ := com_step n1 t1'
        by_cases hb : n * (sumL (lowL (ls.getD k [])) / gI n (sumL (lowL (ls.getD k [])))) ≤ 1000000000000000
        · rw [if_pos hb] at e
          cases e
          have dd := lcm_dvd n1 t1' (Int.dvd_trans nd a3) (Int.dvd_trans dv a4)
          have le := Int.le_of_dvd (by omega) dd
          rw [if_pos (by omega)]
          exact ⟨_, rfl, c5, dd⟩
        · rw [if_neg hb] at e; cases e
/-- in the lists' terms -/
theorem low_get {w : List Int} (ok : OkW w) (p : Nat) : (lowL w).getD p 0 * gL w = w.getD p 0 := by
  by_cases h : p < w.length
  · have e : (lowL w).getD p 0 = w[p] / gL w := by simp [lowL, h]
    rw [e, Int.ediv_mul_cancel (gL_dvd w ok.nn _ (List.getElem_mem h))]; simp [h]
  · rw [getD_out _ (by rw [lowL_len]; omega), getD_out _ (by omega)]; simp
/-- the part of a list in what is mapped -/
theorem mixT_map (h : MixOk c ls len) (hm : Mapd ls ms to) (hl : to.length = len) (ht : ∀ x ∈ to, 0 ≤ x ∧ x < (4 : Nat)) {m m' : Int} {i j : Nat} (hi : i < ls.length) (hj : j < 4)
    (hd : c.getD i 0 ≠ 0 → sumL (lowL (ls.getD i [])) ∣ m) (hd' : c.getD i 0 ≠ 0 → sumL (lowL (ms.getD i [])) ∣ m') :
    mS to j (fun p => mixT c ls m p i) len * m' = mixT c ms m' j i * m := by
  unfold mixT
  by_cases hc : c.getD i 0 = 0
  · simp only [if_pos hc]
    rw [mS_zero, Int.zero_mul, Int.zero_mul]
  · simp only [if_neg hc]
    have ok := h.ok i hi
    have hli := h.eq i hi
    obtain ⟨okm, hs, hlen⟩ := map4_ok ok (by omega) ht
    rw [mS_mul]
    have d1 := hd hc
    have d2 := hd' hc
    rw [hm.eq i hi] at d2 ⊢
    obtain ⟨w, hw⟩ : ∃ w, w = ls.getD i [] := ⟨_, rfl⟩
    rw [← hw] at ok hli okm hs hlen d1 d2 ⊢
    obtain ⟨M, hM⟩ : ∃ w', w' = mapTo w to 4 w.length := ⟨_, rfl⟩
    have e1 : M.getD j 0 = mS to j (fun p => w.getD p 0) len := by rw [hM, mapTo_get ht hj _ (by omega), hli]
    rw [← hM] at okm hs d2 ⊢
    have e2 : mS to j (fun p => w.getD p 0) len = mS to j (fun p => (lowL w).getD p 0) len * gL w := by
      rw [← mS_mul]; exact mS_congr fun p _ => (low_get ok p).symm
    obtain ⟨a, ha⟩ := d1
    obtain ⟨b, hb⟩ := d2
    have t1 := (low_ok ok).pos
    have t2 := (low_ok okm).pos
    have q1 : m / sumL (lowL w) = a := by rw [ha, Int.mul_ediv_cancel_left _ (by omega)]
    have q2 : m' / sumL (lowL M) = b := by rw [hb, Int.mul_ediv_cancel_left _ (by omega)]
    rw [q1, q2]
    have f1 := low_sum ok
    have f2 := low_sum okm
    have f3 := low_get okm j
    have g1 := ok.gpos
    have g2 := okm.gpos
    obtain ⟨X, hX⟩ : ∃ X, X = mS to j (fun p => (lowL w).getD p 0) len := ⟨_, rfl⟩
    rw [← hX] at e2 ⊢
    rw [ha, hb]
    have key : X * sumL (lowL M) = (lowL M).getD j 0 * sumL (lowL w) := by
      apply Int.eq_of_mul_eq_mul_right (a := gL w * gL M) (by have := Int.mul_pos g1 g2; omega)
      calc X * sumL (lowL M) * (gL w * gL M) = (X * gL w) * (sumL (lowL M) * gL M) := by ac_rfl
        _ = M.getD j 0 * sumL M := by rw [← e2, ← e1, f2]
        _ = M.getD j 0 * sumL w := by rw [hs]
        _ = ((lowL M).getD j 0 * gL M) * (sumL (lowL w) * gL w) := by rw [f3, f1]
        _ = _ := by ac_rfl
    calc X * (c.getD i 0 * a) * (sumL (lowL M) * b) = (X * sumL (lowL M)) * (c.getD i 0 * a * b) := by ac_rfl
      _ = ((lowL M).getD j 0 * sumL (lowL w)) * (c.getD i 0 * a * b) := by rw [key]
      _ = _ := by ac_rfl
end
/-- lists that are equal crosswise give the same chances -/
theorem low_cross' {a b : List Int} (ha : OkW a) (hb : OkW b) (hl : a.length = b.length) (h : ∀ i, i < a.length → a.getD i 0 * sumL b = b.getD i 0 * sumL a) : lowL a = lowL b := by
  refine low_cross ha hb hl fun i hi => ?_
  have g1 := ha.gpos; have g2 := hb.gpos
  apply Int.eq_of_mul_eq_mul_right (a := gL a * gL b) (by have := Int.mul_pos g1 g2; omega)
  calc (lowL a).getD i 0 * sumL (lowL b) * (gL a * gL b) = ((lowL a).getD i 0 * gL a) * (sumL (lowL b) * gL b) := by ac_rfl
    _ = a.getD i 0 * sumL b := by rw [low_get ha, low_sum hb]
    _ = b.getD i 0 * sumL a := h i hi
    _ = ((lowL b).getD i 0 * gL b) * (sumL (lowL a) * gL a) := by rw [low_get hb, low_sum ha]
    _ = _ := by ac_rfl
end Go.Proofs.Ytmfbiohdmhbkoaa
namespace Go.Proofs.Ytmfbiohdmhbkoaa

/-- what Mix found -/
structure Mixd (cs : List Int) (L : List (List Int)) (m : Int) : Prop where
  ok : OkW cs
  mo : MixOk (lowL cs) L (L.getD 0 []).length
  ll : L.length = cs.length
  com : comTo (lowL cs) L L.length = some m
  m1 : 1 ≤ m
  bd : sumL (lowL cs) * m ≤ 1000000000000000
  dv : ∀ i, i < L.length → (lowL cs).getD i 0 ≠ 0 → sumL (lowL (L.getD i [])) ∣ m
def mixX (cs : List Int) (L : List (List Int)) (m : Int) : List Int := mixO (lowL cs) L m (L.getD 0 []).length (fun _ => true)
theorem mixd_of {cs : List Int} {L : List (List Int)} {el : Int} (h : (mixR cs L el).2 = 0) (hok : el = 0 → ∀ i, i < L.length → OkW (L.getD i [])) : ∃ m, Mixd cs L m ∧ mixR cs L el = (lowL (mixX cs L m), 0) := by
  unfold mixR at h ⊢
  by_cases h1 : errW cs ≠ 0
  · rw [if_pos h1] at h; exact absurd h h1
  · rw [if_neg h1] at h ⊢
    have ok : OkW cs := errW_zero.1 (Classical.byContradiction h1)
    by_cases h2 : L.length ≠ cs.length
    · rw [if_pos h2] at h; cases h
    · rw [if_neg h2] at h ⊢
      have hl : L.length = cs.length := Classical.byContradiction h2
      by_cases h3 : el ≠ 0
      · rw [if_pos h3] at h; exact absurd h h3
      · rw [if_neg h3] at h ⊢
        have hall := hok (Classical.byContradiction h3)
        by_cases h4 : L.any (fun l => l.length != (L.getD 0 []).length) = true
        · rw [if_pos h4] at h; cases h
        · rw [if_neg h4] at h ⊢
          have mo : MixOk (lowL cs) L (L.getD 0 []).length := by
            refine ⟨by rw [lowL_len, hl], low_nn ok, hall, fun i hi => ?_⟩
            rw [Bool.not_eq_true, List.any_eq_false] at h4
            have := h4 _ (List.getElem_mem hi)
            have e : L.getD i [] = L[i] := by simp [hi]
            rw [e]; simpa using this
          cases hc : comTo (lowL cs) L L.length with
          | none => rw [hc] at h; cases h
          | some m =>
            rw [hc] at h
            simp only at h ⊢
            obtain ⟨m1, m2, dv⟩ := comTo_ok mo _ (Nat.le_refl _) m hc
            by_cases h5 : 1000000000000000 < sumL (lowL cs) * m
            · rw [if_pos h5] at h; cases h
            · exact ⟨m, ⟨ok, mo, hl, hc, m1, by omega, dv⟩, by rw [if_neg h5]; rfl⟩
theorem mix_not {cs : List Int} {L : List (List Int)} {el : Int} (h : (mixR cs L el).2 ≠ 0) : (mixR cs L el).1 = [] := by
  unfold mixR at h ⊢
  by_cases h1 : errW cs ≠ 0
  · rw [if_pos h1]
  · rw [if_neg h1] at h ⊢
    by_cases h2 : L.length ≠ cs.length
    · rw [if_pos h2]
    · rw [if_neg h2] at h ⊢
      by_cases h3 : el ≠ 0
      · rw [if_pos h3]
      · rw [if_neg h3] at h ⊢
        by_cases h4 : L.any (fun l => l.length != (L.getD 0 []).length) = true
        · rw [if_pos h4]
        · rw [if_neg h4] at h ⊢
          cases hc : comTo (lowL cs) L L.length with
          | none => rfl
          | some m =>
            rw [hc] at h
            simp only at h ⊢
            by_cases h5 : 1000000000000000 < sumL (lowL cs) * m
            · rw [if_pos h5]
            · rw [if_neg h5] at h; exact absurd rfl h
section
variable {cs : List Int} {L : List (List Int)} {m : Int}
theorem Mixd.pos (h : Mixd cs L m) : 0 < sumL (lowL cs) * m := Int.mul_pos (by have := (low_ok h.ok).pos; omega) (by have := h.m1; omega)
theorem Mixd.xlen (_ : Mixd cs L m) : (mixX cs L m).length = (L.getD 0 []).length := mixO_len _
theorem Mixd.len_pos (h : Mixd cs L m) : 0 < L.length := by rw [h.ll]; exact h.ok.pos_len
theorem Mixd.xsum (h : Mixd cs L m) : sumL (mixX cs L m) = sumL (lowL cs) * m := mixO_sum h.mo h.dv
theorem Mixd.xok (h : Mixd cs L m) : OkW (mixX cs L m) :=
  ⟨by rw [h.xlen]; exact (h.mo.ok 0 h.len_pos).len, mixO_nn h.mo h.m1 _, by rw [h.xsum]; have := h.pos; omega, by rw [h.xsum]; exact h.bd⟩
theorem Mixd.l_len (h : Mixd cs L m) : (lowL (mixX cs L m)).length = (L.getD 0 []).length ∧ 0 < (L.getD 0 []).length := ⟨by rw [lowL_len, h.xlen], (h.mo.ok 0 h.len_pos).pos_len⟩
/-- what the cases before j give an outcome -/
def caseV (cs : List Int) (L : List (List Int)) (m : Int) (k j : Nat) : Int := sumV (mixT (lowL cs) L m k) (fun _ => true) j
theorem caseV_succ (k j : Nat) : caseV cs L m k (j + 1) = caseV cs L m k j + mixT (lowL cs) L m k j := by simp [caseV, sumV]
theorem caseV_mono (h : Mixd cs L m) (k : Nat) : ∀ {i j : Nat}, i ≤ j → j ≤ L.length → caseV cs L m k i ≤ caseV cs L m k j := by
  intro i j hij hj
  induction j with
  | zero => have : i = 0 := by omega
            subst this; exact Int.le_refl _
  | succ j ih =>
    rcases Nat.lt_or_ge i (j + 1) with hlt | hge
    · have := ih (by omega) (by omega)
      have := mixT_nn (j := k) h.mo h.m1 (i := j) (by omega)
      rw [caseV_succ]; omega
    · have : i = j + 1 := by omega
      subst this; exact Int.le_refl _
theorem caseV_le (h : Mixd cs L m) {k j : Nat} (hk : k < (L.getD 0 []).length) (hj : j ≤ L.length) : caseV cs L m k j ≤ sumL (lowL cs) * m := by
  have h1 := caseV_mono h k hj (Nat.le_refl _)
  have h2 := le_sumL h.xok.nn (k := k) (by rw [h.xlen]; exact hk)
  have h3 : (mixX cs L m)[k]'(by rw [h.xlen]; exact hk) = caseV cs L m k L.length := mixO_get _ hk
  rw [h3, h.xsum] at h2
  omega
theorem caseV_all (h : Mixd cs L m) {k : Nat} (hk : k < (L.getD 0 []).length) : (mixX cs L m).getD k 0 = caseV cs L m k L.length := by
  have h3 : (mixX cs L m)[k]'(by rw [h.xlen]; exact hk) = caseV cs L m k L.length := mixO_get _ hk
  rw [← h3, List.getD_eq_getElem?_getD, List.getElem?_eq_getElem (by rw [h.xlen]; exact hk)]; rfl
/-- Has, divided by what is common -/
theorem Has.div {n d V M g : Int} (hg : 0 < g) (h : Has n d (V * g) (M * g)) : Has n d V M := by
  unfold Has at *
  apply Int.eq_of_mul_eq_mul_right (a := g) (by omega)
  calc n * M * g = n * (M * g) := by ac_rfl
    _ = V * g * d := h
    _ = V * d * g := by ac_rfl
theorem of_low {w : List Int} (ok : OkW w) {k : Nat} (hk : k < w.length) : (ofR w [(k : Int)]).2.2 = 0 ∧ OkC ⟨(ofR w [(k : Int)]).1, (ofR w [(k : Int)]).2.1⟩ ∧ Has (ofR w [(k : Int)]).1 (ofR w [(k : Int)]).2.1 ((lowL w).getD k 0) (sumL (lowL w)) := by
  obtain ⟨h1, h2, h3⟩ := of_has ok (one_among hk)
  rw [selS_one, ← low_get ok, ← low_sum ok] at h1
  exact ⟨h2, h3, Has.div ok.gpos h1⟩
/-- the chance of a case times that of the outcome in it -/
theorem case_both (h : Mixd cs L m) {k i : Nat} (hi : i < L.length) {p q : Ch} (op : OkC p) (oq : OkC q) (hp : Has p.n p.d ((lowL cs).getD i 0) (sumL (lowL cs)))
    (hq : Has q.n q.d ((lowL (L.getD i [])).getD k 0) (sumL (lowL (L.getD i [])))) (he : (bothR p q).2.2 = 0) : OkC ⟨(bothR p q).1, (bothR p q).2.1⟩ ∧ Has (bothR p q).1 (bothR p q).2.1 (mixT (lowL cs) L m k i) (sumL (lowL cs) * m) := by
  obtain ⟨_, _, orr, e⟩ := both_ok he
  obtain ⟨⟨r1, r2, r3⟩, hr⟩ : ∃ x, x = bothR p q := ⟨_, rfl⟩
  rw [← hr] at e orr ⊢
  simp only at e orr ⊢
  refine ⟨orr, ?_⟩
  have d1 := op.d1; have d2 := oq.d1
  have pp := Int.mul_pos (show 0 < p.d by omega) (show 0 < q.d by omega)
  unfold mixT Has at *
  by_cases hc : (lowL cs).getD i 0 = 0
  · rw [if_pos hc]
    rw [hc, Int.zero_mul] at hp
    have sp := (low_ok h.ok).pos
    have p0 : p.n = 0 := by
      rcases Int.mul_eq_zero.1 hp with h | h
      · exact h
      · omega
    rw [p0, Int.zero_mul, Int.mul_zero] at e
    have r0 : r1 = 0 := by
      rcases Int.mul_eq_zero.1 e with h | h
      · exact h
      · omega
    rw [r0, Int.zero_mul, Int.zero_mul]
  · rw [if_neg hc]
    obtain ⟨a, ha⟩ := h.dv i hi hc
    have t1 := (low_ok (h.mo.ok i hi)).pos
    rw [show m / sumL (lowL (L.getD i [])) = a by rw [ha, Int.mul_ediv_cancel_left _ (by omega)]]
    apply Int.eq_of_mul_eq_mul_right (a := p.d * q.d) (by omega)
    conv => lhs; rw [ha]
    calc r1 * (sumL (lowL cs) * (sumL (lowL (L.getD i [])) * a)) * (p.d * q.d) = r1 * (p.d * q.d) * (sumL (lowL cs) * (sumL (lowL (L.getD i [])) * a)) := by ac_rfl
      _ = r2 * (p.n * q.n) * (sumL (lowL cs) * (sumL (lowL (L.getD i [])) * a)) := by rw [e]
      _ = r2 * ((p.n * sumL (lowL cs)) * (q.n * sumL (lowL (L.getD i [])))) * a := by ac_rfl
      _ = r2 * (((lowL cs).getD i 0 * p.d) * ((lowL (L.getD i [])).getD k 0 * q.d)) * a := by rw [hp, hq]
      _ = _ := by ac_rfl
theorem both_cases {a b : Ch} (ha : OkC a) (hb : OkC b) : (bothR a b).2.2 = 0 ∨ (bothR a b).2.2 = 10 := by
  unfold bothR
  rw [if_pos (okP_iff.2 ⟨ha, hb⟩)]
  split
  · exact .inl rfl
  · exact .inr rfl
theorem either_cases {a b : Ch} (ha : OkC a) (hb : OkC b) {V V' M : Int} (h : Has a.n a.d V M) (h' : Has b.n b.d V' M) (hM : 0 < M) (hle : V + V' ≤ M) : (eitherR a b).2.2 = 0 ∨ (eitherR a b).2.2 = 10 := by
  have ad := ha.d1; have bd := hb.d1
  have pp := Int.mul_pos (show 0 < a.d by omega) (show 0 < b.d by omega)
  have hng : ¬ (b.d - b.n) * a.d < a.n * b.d := by
    unfold Has at h h'
    have e : (a.n * b.d + b.n * a.d) * M ≤ a.d * b.d * M := by
      calc (a.n * b.d + b.n * a.d) * M = a.n * M * b.d + b.n * M * a.d := by rw [Int.add_mul]; congr 1 <;> ac_rfl
        _ = V * a.d * b.d + V' * b.d * a.d := by rw [h, h']
        _ = (V + V') * (a.d * b.d) := by rw [Int.add_mul]; congr 1 <;> ac_rfl
        _ ≤ M * (a.d * b.d) := Int.mul_le_mul_of_nonneg_right hle (by omega)
        _ = a.d * b.d * M := by ac_rfl
    have := Int.le_of_mul_le_mul_right e hM
    rw [Int.sub_mul, Int.mul_comm b.d a.d]; omega
  unfold eitherR
  rw [if_pos (okP_iff.2 ⟨ha, hb⟩), if_neg hng]
  split
  · exact .inl rfl
  · exact .inr rfl
/-- the chance of an outcome in the mixture -/
theorem case_final (h : Mixd cs L m) {k : Nat} (hk : k < (L.getD 0 []).length) {s : Ch} (os : OkC s) (hs : Has s.n s.d (caseV cs L m k L.length) (sumL (lowL cs) * m)) : ofR (lowL (mixX cs L m)) [(k : Int)] = (s.n, s.d, 0) := by
  have okl := low_ok h.xok
  have hkl : k < (lowL (mixX cs L m)).length := by rw [h.l_len.1]; exact hk
  obtain ⟨h1, h2, h3⟩ := of_has okl (one_among hkl)
  rw [selS_one] at h1
  have h4 := h1.scale (gL (mixX cs L m))
  rw [low_get h.xok, low_sum h.xok, h.xsum, caseV_all h hk] at h4
  obtain ⟨⟨f1, f2, f3⟩, hf⟩ : ∃ x, x = ofR (lowL (mixX cs L m)) [(k : Int)] := ⟨_, rfl⟩
  rw [← hf] at h2 h3 h4 ⊢
  simp only at h2 h3 h4
  have d1 := h3.d1; have d2 := os.d1
  simp only at d1
  have M := h.pos
  obtain ⟨u1, u2⟩ := co_unique h3.co os.co (by show 0 < f2; omega) (by omega) (by
    show f1 * s.d = s.n * f2
    unfold Has at h4 hs
    apply Int.eq_of_mul_eq_mul_right (a := sumL (lowL cs) * m) (by omega)
    calc f1 * s.d * (sumL (lowL cs) * m) = f1 * (sumL (lowL cs) * m) * s.d := by ac_rfl
      _ = caseV cs L m k L.length * f2 * s.d := by rw [h4]
      _ = caseV cs L m k L.length * s.d * f2 := by ac_rfl
      _ = s.n * (sumL (lowL cs) * m) * f2 := by rw [hs]
      _ = _ := by ac_rfl)
  simp only at u1 u2
  rw [u1, u2, h2]
/-- what is mixed and mapped is what is mapped and mixed -/
theorem map_mix (h : Mixd cs L m) {ms : List (List Int)} {to : List Int} (hm : Mapd L ms to) (hl : to.length = (L.getD 0 []).length) (ht : ∀ x ∈ to, 0 ≤ x ∧ x < (4 : Nat)) :
    ∃ l2, mixR cs ms 0 = (l2, 0) ∧ l2.length = 4 ∧ OkW (mapTo (lowL (mixX cs L m)) to 4 (L.getD 0 []).length) ∧ OkW l2 ∧ lowL (mapTo (lowL (mixX cs L m)) to 4 (L.getD 0 []).length) = lowL l2 := by
  have n0 := h.len_pos
  obtain ⟨m', e', m1', dm⟩ := com_map h.mo hm hl ht _ (Nat.le_refl _) m h.com
  have okms : ∀ i, i < ms.length → OkW (ms.getD i []) ∧ (ms.getD i []).length = 4 := fun i hi => by
    have hi' : i < L.length := by rw [← hm.len]; exact hi
    rw [hm.eq i hi']
    obtain ⟨a, _, b⟩ := map4_ok (h.mo.ok i hi') (by rw [hl, h.mo.eq i hi']) ht
    exact ⟨a, b⟩
  have e0 : (ms.getD 0 []).length = 4 := (okms 0 (by rw [hm.len]; exact n0)).2
  have mo' : MixOk (lowL cs) ms 4 := ⟨by rw [hm.len, h.mo.ll], h.mo.cn, fun i hi => (okms i hi).1, fun i hi => (okms i hi).2⟩
  have e'' : comTo (lowL cs) ms ms.length = some m' := by rw [hm.len]; exact e'
  obtain ⟨_, _, dv'⟩ := comTo_ok mo' _ (Nat.le_refl _) m' e''
  have sp := (low_ok h.ok).pos
  have ml := Int.le_of_dvd (by have := h.m1; omega) dm
  have bd' : sumL (lowL cs) * m' ≤ 1000000000000000 := by
    have := Int.mul_le_mul_of_nonneg_left ml (show 0 ≤ sumL (lowL cs) by omega)
    have := h.bd
    omega
  have sY : sumL (mixO (lowL cs) ms m' 4 (fun _ => true)) = sumL (lowL cs) * m' := mixO_sum mo' dv'
  have pY : 0 < sumL (lowL cs) * m' := Int.mul_pos (by omega) (by omega)
  have okY : OkW (mixO (lowL cs) ms m' 4 (fun _ => true)) := ⟨by rw [mixO_len]; omega, mixO_nn mo' m1' _, by rw [sY]; omega, by rw [sY]; exact bd'⟩
  have hmix : mixR cs ms 0 = (lowL (mixO (lowL cs) ms m' 4 (fun _ => true)), 0) := by
    unfold mixR
    rw [if_neg (fun hh => hh (errW_zero.2 h.ok)), if_neg (by rw [hm.len, h.ll]; exact fun hh => hh rfl), if_neg (fun hh => hh rfl), if_neg, e'']
    · simp only
      rw [if_neg (by omega), e0]
    · rw [Bool.not_eq_true, List.any_eq_false]
      intro x hx
      obtain ⟨i, hi, rfl⟩ := List.mem_iff_getElem.1 hx
      have := (okms i hi).2
      have e : ms.getD i [] = ms[i] := by simp [hi]
      rw [e] at this
      rw [this, e0]; decide
  have okl := low_ok h.xok
  have hll := h.l_len.1
  obtain ⟨okA, sA, lA⟩ := map4_ok okl (by rw [hll, hl]) ht
  rw [hll] at okA sA lA
  have okl2 := low_ok okY
  refine ⟨_, hmix, by rw [lowL_len, mixO_len], okA, okl2, ?_⟩
  refine low_cross' okA okl2 (by rw [lA, lowL_len, mixO_len]) fun j hj => ?_
  rw [lA] at hj
  rw [sA, mapTo_get ht hj _ (by omega)]
  obtain ⟨X, hX⟩ : ∃ X, X = mixX cs L m := ⟨_, rfl⟩
  obtain ⟨Y, hY⟩ : ∃ Y, Y = mixO (lowL cs) ms m' 4 (fun _ => true) := ⟨_, rfl⟩
  have okX := h.xok
  have sX := h.xsum
  have lX := h.xlen
  have gX : ∀ p, p < (L.getD 0 []).length → X.getD p 0 = sumV (mixT (lowL cs) L m p) (fun _ => true) L.length := fun p hp => by rw [hX]; exact caseV_all h hp
  have gY : Y.getD j 0 = sumV (mixT (lowL cs) ms m' j) (fun _ => true) L.length := by
    have e : Y[j]'(by rw [hY, mixO_len]; exact hj) = sumV (mixT (lowL cs) ms m' j) (fun _ => true) ms.length := by
      have := mixO_get (c := lowL cs) (ls := ms) (len := 4) (m := m') (fun _ => true) hj
      simp only [hY]; exact this
    rw [← hm.len, ← e]; simp [hY, mixO_len, hj]
  rw [← hX] at okX sX lX ⊢
  rw [← hY] at okY sY ⊢
  have g1 := okX.gpos; have g2 := okY.gpos
  have key : mS to j (fun p => X.getD p 0) (L.getD 0 []).length * sumL Y = Y.getD j 0 * sumL X := by
    rw [mS_congr (g := fun p => sumV (mixT (lowL cs) L m p) (fun _ => true) L.length) gX, mS_swap, gY, sX, sY]
    have step : sumV (fun i => mS to j (fun p => mixT (lowL cs) L m p i) (L.getD 0 []).length) (fun _ => true) L.length * m' = sumV (mixT (lowL cs) ms m' j) (fun _ => true) L.length * m := by
      rw [← sumV_mulr, ← sumV_mulr]
      exact sumV_congr fun i hi => .inl ⟨rfl, mixT_map h.mo hm hl ht hi hj (h.dv i hi) (dv' i (by rw [hm.len]; exact hi))⟩
    calc _ = sumV (fun i => mS to j (fun p => mixT (lowL cs) L m p i) (L.getD 0 []).length) (fun _ => true) L.length * m' * sumL (lowL cs) := by ac_rfl
      _ = sumV (mixT (lowL cs) ms m' j) (fun _ => true) L.length * m * sumL (lowL cs) := by rw [step]
      _ = _ := by ac_rfl
  apply Int.eq_of_mul_eq_mul_right (a := gL X * gL Y) (by have := Int.mul_pos g1 g2; omega)
  have eX : mS to j (fun p => (lowL X).getD p 0) (L.getD 0 []).length * gL X = mS to j (fun p => X.getD p 0) (L.getD 0 []).length := by
    rw [← mS_mul]; exact mS_congr fun p _ => low_get okX p
  calc mS to j (fun p => (lowL X).getD p 0) (L.getD 0 []).length * sumL (lowL Y) * (gL X * gL Y) = (mS to j (fun p => (lowL X).getD p 0) (L.getD 0 []).length * gL X) * (sumL (lowL Y) * gL Y) := by ac_rfl
    _ = mS to j (fun p => X.getD p 0) (L.getD 0 []).length * sumL Y := by rw [eX, low_sum okY]
    _ = Y.getD j 0 * sumL X := key
    _ = ((lowL Y).getD j 0 * gL Y) * (sumL (lowL X) * gL X) := by rw [low_get okY, low_sum okX]
    _ = _ := by ac_rfl
end
end Go.Proofs.Ytmfbiohdmhbkoaa

/- almanac: there and back; plain. -/
import Derived.Test.YtfbnllmmoaialaaGreatZ12Aq
import Derived.Test.YtfbnllmmoaialaaGreatZ08Aj
import Derived.Test.YtfbnllmmoaialaaGreatZ21RfB
import Derived.Deep.DeepCutAuto
namespace Go.Proofs.YtfbnllmmoaialaaGreat

theorem sumL_sum (l : List Int) : sumL l = l.sum := rfl
theorem walkM_is : ∀ (l : List Int) (m d : Int) (k : Nat) (hk : k < l.length), (∀ x ∈ l, 0 ≤ x) → 1 ≤ d → d ≤ l[k] → walkM l m ((l.take k).sum + d) = (m + k, d)
  | [], _, _, _, hk, _, _, _ => by simp at hk
  | n :: l, m, d, 0, _, _, h1, h2 => by
    have h2' : d ≤ n := by simpa using h2
    rw [List.take_zero, List.sum_nil, Int.zero_add, walkM, if_pos h2']
    simp
  | n :: l, m, d, k + 1, hk, hn, h1, h2 => by
    have hs : 0 ≤ (l.take k).sum := by
      have : ∀ l : List Int, (∀ x ∈ l, 0 ≤ x) → 0 ≤ l.sum := by
        intro l
        induction l with
        | nil => intro; simp
        | cons x l ih => intro h; simp only [List.sum_cons]; have := ih (fun y hy => h y (by simp [hy])); have := h x (by simp); omega
      exact this _ fun x hx => hn x (by simp [List.mem_of_mem_take hx])
    rw [List.take_succ_cons, List.sum_cons, walkM, if_neg (by omega), show n + (l.take k).sum + d - n = (l.take k).sum + d by omega, walkM_is l (m + 1) d k (by simpa using hk) (fun x hx => hn x (by simp [hx])) h1 (by simpa using h2)]
    rw [show m + 1 + (k : Int) = m + ((k + 1 : Nat) : Int) by omega]
theorem take_sum_le : ∀ (l : List Int) (k : Nat) (hk : k < l.length), (∀ x ∈ l, 0 ≤ x) → (l.take k).sum + l[k] ≤ l.sum
  | n :: l, 0, _, h => by
    have : ∀ l : List Int, (∀ x ∈ l, 0 ≤ x) → 0 ≤ l.sum := by
      intro l
      induction l with
      | nil => intro; simp
      | cons x l ih => intro h; simp only [List.sum_cons]; have := ih (fun y hy => h y (by simp [hy])); have := h x (by simp); omega
    have := this l (fun x hx => h x (by simp [hx]))
    simp; omega
  | n :: l, k + 1, hk, h => by
    have := take_sum_le l k (by simpa using hk) (fun x hx => h x (by simp [hx]))
    simp only [List.take_succ_cons, List.sum_cons, List.getElem_cons_succ]; omega
theorem extra_bd2 {r : Sol} (ok : SolOk r) {y : Int} (y0 : 0 ≤ y) : 0 ≤ extraN r y ∧ extraN r y ≤ 1 := by rw [extraN_eq ok y0]; split <;> omega
theorem monL_nn {x : Int} (x0 : 0 ≤ x) : ∀ y ∈ monL x, 0 ≤ y := by
  intro y hy
  simp only [monL, List.mem_cons, List.not_mem_nil, or_false] at hy
  rcases hy with rfl | rfl | rfl | rfl | rfl | rfl | rfl | rfl | rfl | rfl | rfl | rfl <;> omega
theorem take_nn {l : List Int} (h : ∀ x ∈ l, 0 ≤ x) (k : Nat) : 0 ≤ (l.take k).sum := by
  have : ∀ l : List Int, (∀ x ∈ l, 0 ≤ x) → 0 ≤ l.sum := by
    intro l
    induction l with
    | nil => intro; simp
    | cons x l ih => intro h; simp only [List.sum_cons]; have := ih (fun y hy => h y (by simp [hy])); have := h x (by simp); omega
  exact this _ fun x hx => h x (List.mem_of_mem_take hx)
/-- a date is the date of its day -/
theorem solI_is {r : Sol} (ok : SolOk r) {y k : Nat} {d day : Int} (hy : y ≤ 2740) (hk : k < (monL (extraN r y)).length) (h1 : 1 ≤ d) (h2 : d ≤ (monL (extraN r y))[k]) (hd : begI r y + ((monL (extraN r y)).take k).sum + d - 1 = day) : solI r day = ⟨(y : Int), (k : Int) + 1, d⟩ := by
  have hx := extra_bd2 ok (y := (y : Int)) (by omega)
  have hnn := monL_nn hx.1
  have ht := take_sum_le _ k hk hnn
  have h0 := take_nn hnn k
  rw [monL_sum] at ht
  have he : extraN r y = begI r ((y : Int) + 1) - begI r y - 365 := rfl
  have hyi : yearI r day = y := yearI_is ok (by omega) (by omega) hy
  unfold solI
  rw [hyi, show day - begI r y + 1 = ((monL (extraN r y)).take k).sum + d by omega, walkM_is _ 1 d k hk hnn h1 h2]
  simp only [SDate.mk.injEq, true_and, and_true]
  omega
/-- the next date -/
def nextS (a b : SDate) : Prop := (b.d = a.d + 1 ∧ b.m = a.m ∧ b.y = a.y) ∨ (b.d = 1 ∧ b.m = a.m + 1 ∧ b.y = a.y ∧ 28 ≤ a.d) ∨ (b.d = 1 ∧ b.m = 1 ∧ b.y = a.y + 1 ∧ a.m = 12 ∧ a.d = 31)
theorem sol_back {r : Sol} (ok : SolOk r) {day : Int} (d0 : 0 ≤ day) (d1 : day ≤ 999999) : dayR r (solI r day) = (day, 0) ∧ nextS (solI r day) (solI r (day + 1)) ∧ 0 ≤ (solI r day).y := by
  have hsp := solI_spec ok d0 (by omega : day ≤ 1000000)
  have hys := yearI_spec ok d0 (by omega : day ≤ 1000000)
  generalize yearI r day = y at hsp hys
  obtain ⟨k, hk2, e1, e2, e3, e4, e5'⟩ := hsp
  obtain ⟨g1, g2, g3⟩ := hys
  have hx := extra_bd2 ok (y := (y : Int)) (by omega)
  have hm := monL_bd hx.1 hx.2 hk2
  have hk12 : k < 12 := hk2
  obtain ⟨a, ha⟩ : ∃ a, a = solI r day := ⟨_, rfl⟩
  rw [← ha] at e1 e2 e3 e4 e5' ⊢
  obtain ⟨ay, am, ad⟩ := a
  simp only at e1 e2 e3 e4 e5'
  subst e1 e2
  refine ⟨?_, ?_, by simp only; omega⟩
  · unfold dayR
    have b1 : inB ((y : Int)) 0 4000 = true := inB_iff.2 (by omega)
    have b2 : inB ((k : Int) + 1) 1 12 = true := inB_iff.2 (by omega)
    have ek : ((k : Int) + 1 - 1).toNat = k := by omega
    have b3 : inB ad 1 ((monL (extraN r y)).getD k 0) = true := inB_iff.2 ⟨e4, by rw [List.getD_eq_getElem?_getD, List.getElem?_eq_getElem hk2]; exact e5'⟩
    have es : begI r y + ad - 1 + sumL ((monL (extraN r y)).take k) = day := by rw [sumL_sum]; omega
    simp only [solB_iff.2 ok, b1, b2, ek, b3, es, if_true, inB_iff.2 (show (0 : Int) ≤ day ∧ day ≤ 1000000 by omega)]
  · by_cases c1 : ad < (monL (extraN r y))[k]
    · rw [solI_is ok (day := day + 1) (d := ad + 1) (by omega) hk2 (by omega) (by omega) (by omega)]
      exact .inl ⟨rfl, rfl, rfl⟩
    · by_cases c2 : k < 11
      · have hk3 : k + 1 < (monL (extraN r y)).length := by show k + 1 < 12; omega
        have hm2 := monL_bd hx.1 hx.2 hk3
        have hts : ((monL (extraN r y)).take (k + 1)).sum = ((monL (extraN r y)).take k).sum + (monL (extraN r y))[k] := by
          rw [List.take_add_one, List.getElem?_eq_getElem hk2, List.sum_append]; simp; rfl
        rw [solI_is ok (day := day + 1) (k := k + 1) (d := 1) (by omega) hk3 (by omega) (by omega) (by rw [hts]; omega)]
        exact .inr (.inl ⟨rfl, by simp only; omega, rfl, by simp only; omega⟩)
      · obtain rfl : k = 11 := by omega
        have hx2 := extra_bd2 ok (y := ((y + 1 : Nat) : Int)) (by omega)
        have hk4 : 0 < (monL (extraN r ((y + 1 : Nat) : Int))).length := by show 0 < 12; omega
        have hm3 := monL_bd hx2.1 hx2.2 hk4
        have h31 : (monL (extraN r y))[11] = 31 := rfl
        have hsum : ((monL (extraN r y)).take 11).sum + 31 = 365 + extraN r y := by rw [← monL_sum]; simp [monL]; omega
        have he : extraN r y = begI r ((y : Int) + 1) - begI r y - 365 := rfl
        rw [solI_is ok (day := day + 1) (y := y + 1) (k := 0) (d := 1) (by omega) hk4 (by omega) (by omega) (by
          have : begI r ((y + 1 : Nat) : Int) = begI r ((y : Int) + 1) := by congr 1
          rw [this]; simp only [List.take_zero, List.sum_nil]; omega)]
        exact .inr (.inr ⟨rfl, by simp, by simp, by simp, by simp only; omega⟩)
/-! by the moon -/
def nextM (a b : LDate) : Prop := (b.d = a.d + 1 ∧ b.m = a.m ∧ b.y = a.y ∧ b.k = a.k) ∨ (b.d = 1 ∧ b.m = a.m + 1 ∧ b.y = a.y ∧ b.k = false ∧ 27 ≤ a.d) ∨ (b.d = 1 ∧ b.m = a.m ∧ b.y = a.y ∧ b.k = true ∧ a.k = false ∧ 27 ≤ a.d) ∨ (b.d = 1 ∧ b.m = 1 ∧ b.y = a.y + 1 ∧ b.k = false ∧ a.m = 12 ∧ 27 ≤ a.d)
/-- the name of a month of a year, by its number in it -/
def nameM (r : Lun) (y m0 : Int) : Int × Bool := if longM r y && decide (r.l < m0) then (m0 - 1, m0 == r.l + 1) else (m0, false)
theorem moonI_eq (r : Lun) (d : Int) : moonI r d = ⟨yI r d, (nameM r (yI r d) (mI r d - FI r (yI r d) + 1)).1, d - BI r (mI r d) + 1, (nameM r (yI r d) (mI r d - FI r (yI r d) + 1)).2⟩ := by
  unfold moonI nameM
  rw [show m0I r d = mI r d - FI r (yI r d) + 1 from rfl]
  split <;> rfl
theorem BI_ge {r : Lun} (ok : LunOk r) {n : Int} (h : 0 ≤ n) : 27 * n ≤ BI r n := by
  obtain ⟨p, d, f, y, m, s, l⟩ := ok
  unfold BI atW
  rw [Int.le_ediv_iff_mul_le (by omega)]
  have := Int.mul_le_mul_of_nonneg_left d.1 h
  have e : n * (27 * r.p) = 27 * n * r.p := by rw [← Int.mul_assoc, Int.mul_comm n 27]
  have e2 : n * r.d = r.d * n := Int.mul_comm _ _
  omega
theorem FI_ge {r : Lun} (ok : LunOk r) {n : Int} (h : 0 ≤ n) : 12 * n ≤ FI r n := by
  obtain ⟨p, d, f, y, m, s, l⟩ := ok
  unfold FI atW
  rw [Int.le_ediv_iff_mul_le (by omega)]
  have := Int.mul_le_mul_of_nonneg_left m.1 h
  have e : n * (12 * r.y) = 12 * n * r.y := by rw [← Int.mul_assoc, Int.mul_comm n 12]
  have e2 : n * r.m = r.m * n := Int.mul_comm _ _
  omega
theorem name_bd {r : Lun} (ok : LunOk r) {y m0 : Int} (h1 : 1 ≤ m0) (h2 : m0 ≤ FI r (y + 1) - FI r y) : 1 ≤ (nameM r y m0).1 ∧ (nameM r y m0).1 ≤ 12 ∧ ((nameM r y m0).2 = true → (nameM r y m0).1 = r.l ∧ longM r y = true) := by
  have h4 := FI_step ok y
  have h5 := ok.l
  unfold nameM
  split
  · rename_i h
    simp only [Bool.and_eq_true, decide_eq_true_eq] at h
    obtain ⟨h6, h7⟩ := h
    have h8 := longM_iff.1 h6
    refine ⟨by simp only; omega, by simp only; omega, fun h => ?_⟩
    simp only [beq_iff_eq] at h
    exact ⟨by simp only; omega, h6⟩
  · rename_i h
    simp only [Bool.and_eq_true, decide_eq_true_eq, not_and] at h
    refine ⟨h1, ?_, fun h => by simp at h⟩
    simp only
    by_cases hl : longM r y = true
    · have := h hl; omega
    · have hne : FI r (y + 1) - FI r y ≠ 13 := fun h => hl (longM_iff.2 h)
      omega
theorem monN_name {r : Lun} {y m0 d : Int} (h1 : 1 ≤ m0) : monN r ⟨y, (nameM r y m0).1, d, (nameM r y m0).2⟩ = FI r y + m0 - 1 := by
  unfold monN nameM
  cases hl : longM r y with
  | false => simp [hl]
  | true =>
    by_cases h : r.l < m0
    · simp only [hl, h, decide_true, Bool.and_self, if_true, Bool.true_and]
      by_cases h2 : m0 = r.l + 1
      · subst h2; simp; omega
      · rw [if_pos (by simp; left; omega)]; omega
    · simp only [hl, h, decide_false, Bool.and_false, Bool.false_eq_true, if_false, Bool.or_false, Bool.and_self]
theorem moon_back {r : Lun} (ok : LunOk r) {day : Int} (d0 : 0 ≤ day) (d1 : day ≤ 999999) : ldayR r (moonI r day) = (day, 0) ∧ nextM (moonI r day) (moonI r (day + 1)) ∧ 0 ≤ (moonI r day).y ∧ ((moonI r day).k = true → (moonI r day).m = r.l) := by
  have h1 := mI_spec ok day
  have h2 := yI_spec ok day
  have h3 := BI_step ok (mI r day)
  have h4 := FI_step ok (yI r day)
  have hm0 := (mI_bd ok d0 (by omega)).1
  have hy0 := (yI_bd ok d0 (by omega)).1
  have hb := BI_ge ok hm0
  have hf := FI_ge ok hy0
  have h1n := mI_is ok (d := day + 1) (n := mI r day)
  have h2n := mI_is ok (d := day + 1) (n := mI r day + 1)
  have hy1 := fun h => yI_is ok (d := day + 1) (y := yI r day) h
  have hy2 := fun h => yI_is ok (d := day + 1) (y := yI r day + 1) h
  have h3b := BI_step ok (mI r day + 1)
  have h4b := FI_step ok (yI r day + 1)
  rw [moonI_eq r day, moonI_eq r (day + 1)]
  generalize mI r day = M at *
  generalize yI r day = Y at *
  obtain ⟨n1, n2, n3⟩ := name_bd ok (y := Y) (m0 := M - FI r Y + 1) (by omega) (by omega)
  have hmn := monN_name (r := r) (y := Y) (m0 := M - FI r Y + 1) (d := day - BI r M + 1) (by omega)
  have hmn2 : FI r Y + (M - FI r Y + 1) - 1 = M := by omega
  rw [hmn2] at hmn
  refine ⟨?_, ?_, hy0, fun h => (n3 h).1⟩
  · have b1 : inB Y 0 4000 = true := inB_iff.2 (by omega)
    have b2 : badL r ⟨Y, (nameM r Y (M - FI r Y + 1)).1, day - BI r M + 1, (nameM r Y (M - FI r Y + 1)).2⟩ = false := by
      unfold badL
      rw [hmn]
      have c1 : inB (nameM r Y (M - FI r Y + 1)).1 1 12 = true := inB_iff.2 ⟨n1, n2⟩
      have c2 : inB (day - BI r M + 1) 1 (BI r (M + 1) - BI r M) = true := inB_iff.2 (by omega)
      simp only [c1, c2, Bool.not_true, Bool.or_false, Bool.false_or]
      cases hk : (nameM r Y (M - FI r Y + 1)).2 with
      | false => rfl
      | true => obtain ⟨q1, q2⟩ := n3 hk; rw [q1, q2]; simp
    unfold ldayR
    simp only [lunB_iff.2 ok, b1, b2, hmn, if_true, Bool.false_eq_true, if_false, show BI r M + (day - BI r M + 1) - 1 = day by omega, inB_iff.2 (show (0 : Int) ≤ day ∧ day ≤ 1000000 by omega)]
  · by_cases c1 : day + 1 < BI r (M + 1)
    · have e1 := h1n (by omega) c1
      have e2 := hy1 (by rw [e1]; exact h2.1) (by rw [e1]; exact h2.2)
      rw [e1, e2]
      exact .inl ⟨by simp only; omega, rfl, rfl, rfl⟩
    · have e1 := h2n (by omega) (by omega)
      by_cases c2 : M + 1 < FI r (Y + 1)
      · have e2 := hy1 (by rw [e1]; omega) (by rw [e1]; exact c2)
        rw [e1, e2]
        unfold nameM
        cases hl : longM r Y with
        | false =>
          simp only [Bool.false_and, Bool.false_eq_true, if_false]
          exact .inr (.inl ⟨by simp only; omega, by simp only; omega, rfl, rfl, by simp only; omega⟩)
        | true =>
          simp only [Bool.true_and, decide_eq_true_eq]
          by_cases g1 : r.l < M - FI r Y + 1
          · rw [if_pos g1, if_pos (by omega)]
            exact .inr (.inl ⟨by simp only; omega, by simp only; omega, rfl, by simp only [beq_eq_false_iff_ne]; omega, by simp only; omega⟩)
          · rw [if_neg g1]
            by_cases g2 : r.l < M + 1 - FI r Y + 1
            · rw [if_pos g2]
              exact .inr (.inr (.inl ⟨by simp only; omega, by simp only; omega, rfl, by simp only [beq_iff_eq]; omega, rfl, by simp only; omega⟩))
            · rw [if_neg g2]
              exact .inr (.inl ⟨by simp only; omega, by simp only; omega, rfl, rfl, by simp only; omega⟩)
      · have e2 := hy2 (by rw [e1]; omega) (by rw [e1]; omega)
        rw [e1, e2]
        have hl5 := ok.l
        have k1 : nameM r (Y + 1) (M + 1 - FI r (Y + 1) + 1) = (1, false) := by
          unfold nameM
          rw [show M + 1 - FI r (Y + 1) + 1 = 1 by omega, if_neg (by simp; omega)]
        have k2 : (nameM r Y (M - FI r Y + 1)).1 = 12 := by
          unfold nameM
          cases hl : longM r Y with
          | false =>
            have hne : FI r (Y + 1) - FI r Y ≠ 13 := fun h => by rw [longM_iff.2 h] at hl; cases hl
            simp; omega
          | true =>
            have := longM_iff.1 hl
            rw [if_pos (by simp; omega)]; simp only; omega
        rw [k1, k2]
        exact .inr (.inr (.inr ⟨by simp only; omega, rfl, rfl, rfl, rfl, by simp only; omega⟩))
end Go.Proofs.YtfbnllmmoaialaaGreat
namespace Go.Proofs.YtfbnllmmoaialaaGreat

/-- the next month's name: whether it is the repeated one -/
def leapS (lb : Bool) (l : Int) (q : Int × Bool) : Bool := lb && (q.1 == l) && !q.2
theorem nameM_zero {r : Lun} (ok : LunOk r) (y : Int) : nameM r y 0 = (0, false) := by
  have := ok.l
  unfold nameM
  rw [if_neg (by simp; intro _; omega)]
theorem nameM_step {r : Lun} {y t : Int} (t0 : 0 ≤ t) (hl : 1 ≤ r.l) : nameM r y (t + 1) = ((if leapS (longM r y) r.l (nameM r y t) then (nameM r y t).1 else (nameM r y t).1 + 1), leapS (longM r y) r.l (nameM r y t)) := by
  unfold leapS nameM
  cases longM r y with
  | false => simp
  | true =>
    by_cases h1 : r.l < t
    · have h2 : r.l < t + 1 := by omega
      by_cases h3 : t = r.l + 1
      · subst h3
        simp [h1, h2]
        omega
      · have h4 : ¬ (t - 1 = r.l) := by omega
        have h5 : ¬ (t = r.l) := by omega
        have h6 : (t + 1 == r.l + 1) = false := by simp; omega
        have h7 : (t - 1 == r.l) = false := by simp; omega
        simp [h1, h2, h4, h5, h3, h6, h7]
    · by_cases h3 : t = r.l
      · subst h3
        simp [show ¬ (r.l < r.l) by omega, show r.l < r.l + 1 by omega]
      · have h4 : ¬ (r.l < t + 1) := by omega
        simp [h1, h3, h4]
theorem name_of {r : Lun} (ok : LunOk r) {y m : Int} {k : Bool} (m0 : 1 ≤ m) (m1 : m ≤ 12) (hk : k = true → longM r y = true ∧ m = r.l) : ∃ t : Nat, 1 ≤ t ∧ (t : Int) ≤ FI r (y + 1) - FI r y ∧ nameM r y t = (m, k) := by
  have hF := FI_step ok y
  cases hl : longM r y with
  | false =>
    have hk2 : k = false := by
      cases k with
      | false => rfl
      | true => have := (hk rfl).1; rw [hl] at this; cases this
    refine ⟨m.toNat, by omega, by omega, ?_⟩
    unfold nameM
    simp only [hl, Bool.false_and, Bool.false_eq_true, if_false, hk2, Prod.mk.injEq, and_true]
    omega
  | true =>
    have h13 := longM_iff.1 hl
    cases k with
    | true =>
      have hm := (hk rfl).2
      refine ⟨(m + 1).toNat, by omega, by omega, ?_⟩
      have e : ((m + 1).toNat : Int) = m + 1 := by omega
      rw [e]
      unfold nameM
      rw [if_pos (by simp [hl]; omega)]
      simp only [Prod.mk.injEq, beq_iff_eq]
      omega
    | false =>
      by_cases hlm : r.l < m
      · refine ⟨(m + 1).toNat, by omega, by omega, ?_⟩
        have e : ((m + 1).toNat : Int) = m + 1 := by omega
        rw [e]
        unfold nameM
        rw [if_pos (by simp [hl]; omega)]
        simp only [Prod.mk.injEq, beq_eq_false_iff_ne]
        omega
      · refine ⟨m.toNat, by omega, by omega, ?_⟩
        have e : (m.toNat : Int) = m := by omega
        rw [e]
        unfold nameM
        rw [if_neg (by simp; intro _; omega)]
/-- a date whose month is found -/
theorem lday_hit {r : Lun} (hb : lunB r = true) {y t d m : Int} {k : Bool} (hy : inB y 0 4000 = true) (t0 : 1 ≤ t) (t1 : t ≤ FI r (y + 1) - FI r y) (hn : nameM r y t = (m, k)) : ldayR r ⟨y, m, d, k⟩ = if inB d 1 (BI r (FI r y + t - 1 + 1) - BI r (FI r y + t - 1)) then (if inB (BI r (FI r y + t - 1) + d - 1) 0 1000000 then (BI r (FI r y + t - 1) + d - 1, 0) else (0, 3)) else (0, 7) := by
  have ok := lunB_iff.1 hb
  obtain ⟨n1, n2, n3⟩ := name_bd ok t0 t1
  have hM := monN_name (r := r) (y := y) (d := d) t0
  rw [hn] at n1 n2 n3 hM
  simp only at n1 n2 n3 hM
  have hbad : badL r ⟨y, m, d, k⟩ = !(inB d 1 (BI r (FI r y + t - 1 + 1) - BI r (FI r y + t - 1))) := by
    unfold badL
    rw [hM, show inB m 1 12 = true from inB_iff.2 ⟨n1, n2⟩]
    cases k with
    | false => simp
    | true => obtain ⟨e1, e2⟩ := n3 rfl; simp [e1, e2]
  unfold ldayR
  rw [if_pos hb, if_pos hy, hbad, hM]
  cases inB d 1 (BI r (FI r y + t - 1 + 1) - BI r (FI r y + t - 1)) <;> rfl
/-- a date whose month is not found -/
theorem lday_miss {r : Lun} (hb : lunB r = true) {y d m : Int} {k : Bool} (hy : inB y 0 4000 = true) (h : ∀ t : Nat, 1 ≤ t → (t : Int) ≤ FI r (y + 1) - FI r y → nameM r y t ≠ (m, k)) : ldayR r ⟨y, m, d, k⟩ = (0, 7) := by
  have ok := lunB_iff.1 hb
  have hbad : badL r ⟨y, m, d, k⟩ = true := by
    cases hb2 : badL r ⟨y, m, d, k⟩ with
    | true => rfl
    | false =>
      unfold badL at hb2
      simp only [Bool.or_eq_false_iff, Bool.not_eq_false', Bool.and_eq_false_iff, inB_iff] at hb2
      obtain ⟨⟨m0, m1⟩, h2, -⟩ := hb2
      obtain ⟨t, t0, t1, hn⟩ := name_of ok (k := k) m0 m1 (fun hk => by
        rcases h2 with h2 | ⟨h3, h4⟩
        · rw [hk] at h2; cases h2
        · exact ⟨h3, by simpa using h4⟩)
      exact absurd hn (h t t0 t1)
  unfold ldayR
  rw [if_pos hb, if_pos hy, hbad]
  rfl
end Go.Proofs.YtfbnllmmoaialaaGreat
namespace Go.Proofs.YtfbnllmmoaialaaGreat

/-- the first day of a year -/
theorem year_first {r : Sol} (ok : SolOk r) {y : Int} (y0 : 0 ≤ y) (y1 : y ≤ 2000) : dayR r ⟨y, 1, 1⟩ = (begI r y, 0) ∧ 0 ≤ begI r y ∧ begI r y ≤ 732000 := by
  obtain ⟨n, rfl⟩ := Int.eq_ofNat_of_zero_le y0
  have hb := begI_bd ok n
  refine ⟨?_, by omega, by omega⟩
  unfold dayR
  have e1 : sumL ((monL (extraN r n)).take 0) = 0 := rfl
  have b1 : inB (n : Int) 0 4000 = true := inB_iff.2 (by omega)
  have b2 : inB 1 1 12 = true := rfl
  have b3 : inB 1 1 ((monL (extraN r n)).getD 0 0) = true := rfl
  simp only [solB_iff.2 ok, b1, b2, show ((1 : Int) - 1).toNat = 0 from rfl, b3, e1, if_true, show begI r n + 1 - 1 + 0 = begI r n by omega, inB_iff.2 (show (0 : Int) ≤ begI r n ∧ begI r n ≤ 1000000 by omega)]
/-- a year is long -/
def lwLong (r : Sol) (y : Int) : Bool := decide (0 < r.e) && (y % r.e == 0) && (decide (r.b ≤ 0) || (y % r.b != 0) || (decide (0 < r.u) && (y % r.u == 0)))
theorem lwLong_eq {r : Sol} (ok : SolOk r) {y : Int} : lwLong r y = longB r y := by
  obtain ⟨⟨e0, -⟩, ⟨b0, -⟩, u0, -⟩ := ok
  unfold lwLong longB divB
  rw [Bool.eq_iff_iff]
  simp only [Bool.and_eq_true, Bool.or_eq_true, Bool.not_eq_true', decide_eq_true_eq, decide_eq_false_iff_not, beq_iff_eq, bne_iff_ne]
  constructor
  · rintro ⟨⟨h1, h2⟩, h3⟩
    refine ⟨⟨by omega, h2⟩, ?_⟩
    rcases h3 with (h3 | h3) | ⟨h3, h4⟩
    · exact .inl fun ⟨h, _⟩ => by omega
    · exact .inl fun ⟨_, h⟩ => h3 h
    · exact .inr ⟨by omega, h4⟩
  · rintro ⟨⟨h1, h2⟩, h3⟩
    refine ⟨⟨by omega, h2⟩, ?_⟩
    rcases h3 with h3 | ⟨h3, h4⟩
    · by_cases hb : r.b ≤ 0
      · exact .inl (.inl hb)
      · exact .inl (.inr fun h => h3 ⟨by omega, h⟩)
    · exact .inr ⟨by omega, h4⟩
theorem feb29 {r : Sol} (ok : SolOk r) {y : Int} (y0 : 0 ≤ y) (y1 : y ≤ 2000) : dayR r ⟨y, 2, 29⟩ = if longB r y then (begI r y + 59, 0) else (0, 7) := by
  obtain ⟨-, h0, h1⟩ := year_first ok y0 y1
  have hx := extraN_eq ok y0
  unfold dayR
  have b1 : inB y 0 4000 = true := inB_iff.2 (by omega)
  have b2 : inB 2 1 12 = true := rfl
  have e1 : sumL ((monL (extraN r y)).take 1) = 31 := rfl
  have e2 : (monL (extraN r y)).getD 1 0 = 28 + extraN r y := rfl
  simp only [solB_iff.2 ok, b1, b2, show ((2 : Int) - 1).toNat = 1 from rfl, e1, e2, if_true]
  rw [hx]
  split
  · rw [if_pos (inB_iff.2 (by omega)), if_pos (inB_iff.2 (by omega))]
    simp only [Prod.mk.injEq, and_true]; omega
  · rw [if_neg (by rw [Bool.not_eq_true]; exact inB_not.2 (by omega))]
/-! by the moon -/
theorem BI_le {r : Lun} (ok : LunOk r) {n : Int} (h : 0 ≤ n) : BI r n ≤ 31 * n + 1 := by
  obtain ⟨p, d, f, y, m, s, l⟩ := ok
  unfold BI atW
  rw [← Int.lt_add_one_iff, Int.ediv_lt_iff_lt_mul (by omega)]
  have := Int.mul_le_mul_of_nonneg_left d.2 h
  have e : n * (31 * r.p) = 31 * n * r.p := by rw [← Int.mul_assoc, Int.mul_comm n 31]
  have e2 : n * r.d = r.d * n := Int.mul_comm _ _
  have e3 : (31 * n + 1 + 1) * r.p = 31 * n * r.p + 2 * r.p := by rw [show 31 * n + 1 + 1 = 31 * n + 2 by omega, Int.add_mul]
  omega
theorem FI_le {r : Lun} (ok : LunOk r) {n : Int} (h : 0 ≤ n) : FI r n ≤ 13 * n + 1 := by
  obtain ⟨p, d, f, y, m, s, l⟩ := ok
  unfold FI atW
  rw [← Int.lt_add_one_iff, Int.ediv_lt_iff_lt_mul (by omega)]
  have := Int.mul_le_mul_of_nonneg_left m.2 h
  have e : n * (13 * r.y) = 13 * n * r.y := by rw [← Int.mul_assoc, Int.mul_comm n 13]
  have e2 : n * r.m = r.m * n := Int.mul_comm _ _
  have e3 : (13 * n + 1 + 1) * r.y = 13 * n * r.y + 2 * r.y := by rw [show 13 * n + 1 + 1 = 13 * n + 2 by omega, Int.add_mul]
  omega
/-- how many months of the year begin before month m: the repeated one counts -/
def befM (r : Lun) (y m : Int) : Int := m - 1 + if longM r y && decide (r.l < m) then 1 else 0
/-- the first days of months -/
theorem month_first {r : Lun} (ok : LunOk r) {y m : Int} (y0 : 0 ≤ y) (y1 : y ≤ 2000) (m0 : 1 ≤ m) (m1 : m ≤ 12) : ldayR r ⟨y, m, 1, false⟩ = (BI r (FI r y + befM r y m), 0) ∧ 0 ≤ BI r (FI r y + befM r y m) ∧ BI r (FI r y + befM r y m) ≤ 1000000 := by
  have hf := FI_ge ok y0
  have hf2 := FI_le ok y0
  have hb : 0 ≤ befM r y m ∧ befM r y m ≤ 13 := by unfold befM; split <;> omega
  have hB := BI_ge ok (show 0 ≤ FI r y + befM r y m by omega)
  have hB2 := BI_le ok (show 0 ≤ FI r y + befM r y m by omega)
  have hs := BI_step ok (FI r y + befM r y m)
  have hN : monN r ⟨y, m, 1, false⟩ = FI r y + befM r y m := by
    unfold monN befM
    simp only [Bool.or_false]
    split <;> omega
  refine ⟨?_, by omega, by omega⟩
  have b1 : inB y 0 4000 = true := inB_iff.2 (by omega)
  have b2 : badL r ⟨y, m, 1, false⟩ = false := by
    unfold badL
    rw [hN]
    simp only [inB_iff.2 (show (1 : Int) ≤ m ∧ m ≤ 12 by omega), inB_iff.2 (show (1 : Int) ≤ 1 ∧ 1 ≤ BI r (FI r y + befM r y m + 1) - BI r (FI r y + befM r y m) by omega)]
    rfl
  unfold ldayR
  simp only [lunB_iff.2 ok, b1, b2, hN, if_true, Bool.false_eq_true, if_false, show BI r (FI r y + befM r y m) + 1 - 1 = BI r (FI r y + befM r y m) by omega, inB_iff.2 (show (0 : Int) ≤ BI r (FI r y + befM r y m) ∧ BI r (FI r y + befM r y m) ≤ 1000000 by omega)]
/-- of the repeated month -/
theorem month_leap {r : Lun} (ok : LunOk r) {y m : Int} (y0 : 0 ≤ y) (y1 : y ≤ 2000) (m0 : 1 ≤ m) (m1 : m ≤ 12) : ldayR r ⟨y, m, 1, true⟩ = if longM r y && (m == r.l) then (BI r (FI r y + m), 0) else (0, 7) := by
  have hf := FI_ge ok y0
  have hf2 := FI_le ok y0
  have b1 : inB y 0 4000 = true := inB_iff.2 (by omega)
  have hB := BI_ge ok (show 0 ≤ FI r y + m by omega)
  have hB2 := BI_le ok (show 0 ≤ FI r y + m by omega)
  have hs := BI_step ok (FI r y + m)
  cases hl : longM r y with
  | false =>
    have b2 : badL r ⟨y, m, 1, true⟩ = true := by unfold badL; simp [hl]
    unfold ldayR
    simp only [lunB_iff.2 ok, b1, b2, if_true]
    rfl
  | true =>
    by_cases he : m = r.l
    · have hN : monN r ⟨y, m, 1, true⟩ = FI r y + m := by unfold monN; simp [hl]
      have b2 : badL r ⟨y, m, 1, true⟩ = false := by
        unfold badL
        rw [hN]
        simp only [hl, inB_iff.2 (show (1 : Int) ≤ m ∧ m ≤ 12 by omega), inB_iff.2 (show (1 : Int) ≤ 1 ∧ 1 ≤ BI r (FI r y + m + 1) - BI r (FI r y + m) by omega)]
        simp [he]
      unfold ldayR
      simp only [lunB_iff.2 ok, b1, b2, hN, if_true, Bool.false_eq_true, if_false, show BI r (FI r y + m) + 1 - 1 = BI r (FI r y + m) by omega, inB_iff.2 (show (0 : Int) ≤ BI r (FI r y + m) ∧ BI r (FI r y + m) ≤ 1000000 by omega)]
      simp [he]
    · have b2 : badL r ⟨y, m, 1, true⟩ = true := by unfold badL; simp [hl, he]
      unfold ldayR
      simp only [lunB_iff.2 ok, b1, b2, if_true]
      simp [he]
theorem befM_one {r : Lun} (ok : LunOk r) (y : Int) : befM r y 1 = 0 := by
  have := ok.l
  unfold befM
  rw [if_neg (by simp; omega)]
  rfl
theorem befM_succ {r : Lun} {y m : Int} : befM r y (m + 1) = befM r y m + 1 + if longM r y && (m == r.l) then 1 else 0 := by
  unfold befM
  cases hl : longM r y with
  | false => simp
  | true =>
    simp only [Bool.true_and, decide_eq_true_eq, beq_iff_eq]
    split <;> split <;> split <;> omega
theorem befM_all {r : Lun} (ok : LunOk r) (y : Int) : befM r y 13 = FI r (y + 1) - FI r y := by
  have h := FI_step ok y
  have := ok.l
  unfold befM
  cases hl : longM r y with
  | false =>
    have hne : FI r (y + 1) - FI r y ≠ 13 := fun h => by rw [longM_iff.2 h] at hl; cases hl
    simp; omega
  | true =>
    have := longM_iff.1 hl
    rw [if_pos (by simp; omega)]; omega
/-- the first day of the month that began last, behind c months of a year -/
def lastC (r : Lun) (y c : Int) : Int := BI r (FI r y + if c = 0 then 0 else c - 1)
theorem BI_mono {r : Lun} (ok : LunOk r) {a : Int} : ∀ n : Nat, BI r a ≤ BI r (a + n)
  | 0 => by simp
  | n + 1 => by
    have h1 := BI_mono ok (a := a) n
    have h2 := BI_step ok (a + n)
    rw [show a + ((n + 1 : Nat) : Int) = a + n + 1 by omega]; omega
theorem last_chk {r : Lun} (ok : LunOk r) {y c : Int} (c0 : 0 ≤ c) (c1 : c + 1 ≤ FI r (y + 1) - FI r y) : lastC r y c ≤ BI r (FI r y + c) ∧ BI r (FI r y + c) ≤ BI r (FI r (y + 1)) ∧ (0 < c → 27 ≤ BI r (FI r y + c) - lastC r y c ∧ BI r (FI r y + c) - lastC r y c ≤ 31) ∧ lastC r y (c + 1) = BI r (FI r y + c) := by
  have h2 : BI r (FI r y + c) ≤ BI r (FI r (y + 1)) := by
    have := BI_mono ok (a := FI r y + c) (FI r (y + 1) - FI r y - c).toNat
    rwa [show FI r y + c + ((FI r (y + 1) - FI r y - c).toNat : Int) = FI r (y + 1) by omega] at this
  have h4 : lastC r y (c + 1) = BI r (FI r y + c) := by unfold lastC; rw [if_neg (by omega)]; congr 1; omega
  by_cases h : c = 0
  · subst h
    exact ⟨by unfold lastC; rw [if_pos rfl]; exact Int.le_refl _, h2, fun h => by omega, h4⟩
  · have hs := BI_step ok (FI r y + (c - 1))
    rw [show FI r y + (c - 1) + 1 = FI r y + c by omega] at hs
    have hl : lastC r y c = BI r (FI r y + (c - 1)) := by unfold lastC; rw [if_neg h]
    rw [hl]
    exact ⟨by omega, h2, fun _ => by omega, h4⟩
theorem last_end {r : Lun} (ok : LunOk r) {y : Int} : 27 ≤ BI r (FI r (y + 1)) - lastC r y (FI r (y + 1) - FI r y) ∧ BI r (FI r (y + 1)) - lastC r y (FI r (y + 1) - FI r y) ≤ 31 := by
  have h := FI_step ok y
  have hs := BI_step ok (FI r (y + 1) - 1)
  rw [show FI r (y + 1) - 1 + 1 = FI r (y + 1) by omega] at hs
  have hl : lastC r y (FI r (y + 1) - FI r y) = BI r (FI r (y + 1) - 1) := by unfold lastC; rw [if_neg (by omega)]; congr 1; omega
  rw [hl]; omega
end Go.Proofs.YtfbnllmmoaialaaGreat
namespace Go.Proofs.YtfbnllmmoaialaaGreat
open Go.RowKit

theorem nameM_bd {r : Lun} {y t : Int} (t0 : 0 ≤ t) : -1 ≤ (nameM r y t).1 ∧ (nameM r y t).1 ≤ t := by
  unfold nameM; split <;> simp only <;> omega
end Go.Proofs.YtfbnllmmoaialaaGreat

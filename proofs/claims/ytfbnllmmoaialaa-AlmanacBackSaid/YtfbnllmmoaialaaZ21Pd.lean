/- almanac: there and back; plain. -/
import Derived.Test.YtfbnllmmoaialaaZ13Ar
import Derived.Test.YtfbnllmmoaialaaAj
import Derived.Test.YtfbnllmmoaialaaZ20Fa
namespace Go.Proofs.Ytfbnllmmoaialaa

theorem sumL_sum (l : List Int) : sumL l = l.sum := rfl
theorem walkM_is : ∀ (l : List Int) (m d : Int) (k : Nat) (hk : k < l.length), (∀ x ∈ l, 0 ≤ x) → 1 ≤ d → d ≤ l[k] → walkM l m ((l.take k).sum + d) = (m + k, d)
  | [], _, _, _, hk, _, _, _ => by simp at hk
  | n :: l, m, d, 0, _, _, h1, h2 => by
    have h2' : d ≤ n := by simpa using h2
    rw [List.take_zero, List.sum_nil, Int.zero_add, walkM, if_pos h2']
    simp
  | n :: l, m, d, k + 1, hk, hn, h1, h2 => by
    have hs : 0 ≤ (l.take k).sum := by
      have : ∀ l : List Int, (∀ x ∈ l, 0 ≤ x) → 0 ≤ l.sum := by
        intro l
        induction l with
        | nil => intro; simp
        | cons x l ih => intro h; simp only [List.sum_cons]; have := ih (fun y hy => h y (by simp [hy])); have := h x (by simp); omega
      exact this _ fun x hx => hn x (by simp [List.mem_of_mem_take hx])
    rw [List.take_succ_cons, List.sum_cons, walkM, if_neg (by omega), show n + (l.take k).sum + d - n = (l.take k).sum + d by omega, walkM_is l (m + 1) d k (by simpa using hk) (fun x hx => hn x (by simp [hx])) h1 (by simpa using h2)]
    rw [show m + 1 + (k : Int) = m + ((k + 1 : Nat) : Int) by omega]
theorem take_sum_le : ∀ (l : List Int) (k : Nat) (hk : k < l.length), (∀ x ∈ l, 0 ≤ x) → (l.take k).sum + l[k] ≤ l.sum
  | n :: l, 0, _, h => by
    have : ∀ l : List Int, (∀ x ∈ l, 0 ≤ x) → 0 ≤ l.sum := by
      intro l
      induction l with
      | nil => intro; simp
      | cons x l ih => intro h; simp only [List.sum_cons]; have := ih (fun y hy => h y (by simp [hy])); have := h x (by simp); omega
    have := this l (fun x hx => h x (by simp [hx]))
    simp; omega
  | n :: l, k + 1, hk, h => by
    have := take_sum_le l k (by simpa using hk) (fun x hx => h x (by simp [hx]))
    simp only [List.take_succ_cons, List.sum_cons, List.getElem_cons_succ]; omega
theorem extra_bd2 {r : Sol} (ok : SolOk r) {y : Int} (y0 : 0 ≤ y) : 0 ≤ extraN r y ∧ extraN r y ≤ 1 := by rw [extraN_eq ok y0]; split <;> omega
theorem monL_nn {x : Int} (x0 : 0 ≤ x) : ∀ y ∈ monL x, 0 ≤ y := by
  intro y hy
  simp only [monL, List.mem_cons, List.not_mem_nil, or_false] at hy
  rcases hy with rfl | rfl | rfl | rfl | rfl | rfl | rfl | rfl | rfl | rfl | rfl | rfl <;> omega
theorem take_nn {l : List Int} (h : ∀ x ∈ l, 0 ≤ x) (k : Nat) : 0 ≤ (l.take k).sum := by
  have : ∀ l : List Int, (∀ x ∈ l, 0 ≤ x) → 0 ≤ l.sum := by
    intro l
    induction l with
    | nil => intro; simp
    | cons x l ih => intro h; simp only [List.sum_cons]; have := ih (fun y hy => h y (by simp [hy])); have := h x (by simp); omega
  exact this _ fun x hx => h x (List.mem_of_mem_take hx)
/-- a date is the date of its day -/
theorem solI_is {r : Sol} (ok : SolOk r) {y k : Nat} {d day : Int} (hy : y ≤ 2740) (hk : k < (monL (extraN r y)).length) (h1 : 1 ≤ d) (h2 : d ≤ (monL (extraN r y))[k]) (hd : begI r y + ((monL (extraN r y)).take k).sum + d - 1 = day) : solI r day = ⟨(y : Int), (k : Int) + 1, d⟩ := by
  have hx := extra_bd2 ok (y := (y : Int)) (by omega)
  have hnn := monL_nn hx.1
  have ht := take_sum_le _ k hk hnn
  have h0 := take_nn hnn k
  rw [monL_sum] at ht
  have he : extraN r y = begI r ((y : Int) + 1) - begI r y - 365 := rfl
  have hyi : yearI r day = y := yearI_is ok (by omega) (by omega) hy
  unfold solI
  rw [hyi, show day - begI r y + 1 = ((monL (extraN r y)).take k).sum + d by omega, walkM_is _ 1 d k hk hnn h1 h2]
  simp only [SDate.mk.injEq, true_and, and_true]
  omega
/-- the next date -/
def nextS (a b : SDate) : Prop := (b.d = a.d + 1 ∧ b.m = a.m ∧ b.y = a.y) ∨ (b.d = 1 ∧ b.m = a.m + 1 ∧ b.y = a.y ∧ 28 ≤ a.d) ∨ (b.d = 1 ∧ b.m = 1 ∧ b.y = a.y + 1 ∧ a.m = 12 ∧ a.d = 31)
theorem sol_back {r : Sol} (ok : SolOk r) {day : Int} (d0 : 0 ≤ day) (d1 : day ≤ 999999) : dayR r (solI r day) = (day, 0) ∧ nextS (solI r day) (solI r (day + 1)) ∧ 0 ≤ (solI r day).y := by
  have hsp := solI_spec ok d0 (by omega : day ≤ 1000000)
  have hys := yearI_spec ok d0 (by omega : day ≤ 1000000)
  generalize yearI r day = y at hsp hys
  obtain ⟨k, hk2, e1, e2, e3, e4, e5'⟩ := hsp
  obtain ⟨g1, g2, g3⟩ := hys
  have hx := extra_bd2 ok (y := (y : Int)) (by omega)
  have hm := monL_bd hx.1 hx.2 hk2
  have hk12 : k < 12 := hk2
  obtain ⟨a, ha⟩ : ∃ a, a = solI r day := ⟨_, rfl⟩
  rw [← ha] at e1 e2 e3 e4 e5' ⊢
  obtain ⟨ay, am, ad⟩ := a
  simp only at e1 e2 e3 e4 e5'
  subst e1 e2
  refine ⟨?_, ?_, by simp only; omega⟩
  · unfold dayR
    have b1 : inB ((y : Int)) 0 4000 = true := inB_iff.2 (by omega)
    have b2 : inB ((k : Int) + 1) 1 12 = true := inB_iff.2 (by omega)
    have ek : ((k : Int) + 1 - 1).toNat = k := by omega
    have b3 : inB ad 1 ((monL (extraN r y)).getD k 0) = true := inB_iff.2 ⟨e4, by rw [List.getD_eq_getElem?_getD, List.getElem?_eq_getElem hk2]; exact e5'⟩
    have es : begI r y + ad - 1 + sumL ((monL (extraN r y)).take k) = day := by rw [sumL_sum]; omega
    simp only [solB_iff.2 ok, b1, b2, ek, b3, es, if_true, inB_iff.2 (show (0 : Int) ≤ day ∧ day ≤ 1000000 by omega)]
  · by_cases c1 : ad < (monL (extraN r y))[k]
    · rw [solI_is ok (day := day + 1) (d := ad + 1) (by omega) hk2 (by omega) (by omega) (by omega)]
      exact .inl ⟨rfl, rfl, rfl⟩
    · by_cases c2 : k < 11
      · have hk3 : k + 1 < (monL (extraN r y)).length := by show k + 1 < 12; omega
        have hm2 := monL_bd hx.1 hx.2 hk3
        have hts : ((monL (extraN r y)).take (k + 1)).sum = ((monL (extraN r y)).take k).sum + (monL (extraN r y))[k] := by
          rw [List.take_add_one, List.getElem?_eq_getElem hk2, List.sum_append]; simp; rfl
        rw [solI_is ok (day := day + 1) (k := k + 1) (d := 1) (by omega) hk3 (by omega) (by omega) (by rw [hts]; omega)]
        exact .inr (.inl ⟨rfl, by simp only; omega, rfl, by simp only; omega⟩)
      · obtain rfl : k = 11 := by omega
        have hx2 := extra_bd2 ok (y := ((y + 1 : Nat) : Int)) (by omega)
        have hk4 : 0 < (monL (extraN r ((y + 1 : Nat) : Int))).length := by show 0 < 12; omega
        have hm3 := monL_bd hx2.1 hx2.2 hk4
        have h31 : (monL (extraN r y))[11] = 31 := rfl
        have hsum : ((monL (extraN r y)).take 11).sum + 31 = 365 + extraN r y := by rw [← monL_sum]; simp [monL]; omega
        have he : extraN r y = begI r ((y : Int) + 1) - begI r y - 365 := rfl
        rw [solI_is ok (day := day + 1) (y := y + 1) (k := 0) (d := 1) (by omega) hk4 (by omega) (by omega) (by
          have : begI r ((y + 1 : Nat) : Int) = begI r ((y : Int) + 1) := by congr 1
          rw [this]; simp only [List.take_zero, List.sum_nil]; omega)]
        exact .inr (.inr ⟨rfl, by simp, by simp, by simp, by simp only; omega⟩)
/-! by the moon -/
def nextM (a b : LDate) : Prop := (b.d = a.d + 1 ∧ b.m = a.m ∧ b.y = a.y ∧ b.k = a.k) ∨ (b.d = 1 ∧ b.m = a.m + 1 ∧ b.y = a.y ∧ b.k = false ∧ 27 ≤ a.d) ∨ (b.d = 1 ∧ b.m = a.m ∧ b.y = a.y ∧ b.k = true ∧ a.k = false ∧ 27 ≤ a.d) ∨ (b.d = 1 ∧ b.m = 1 ∧ b.y = a.y + 1 ∧ b.k = false ∧ a.m = 12 ∧ 27 ≤ a.d)
/-- the name of a month of a year, by its number in it -/
def nameM (r : Lun) (y m0 : Int) : Int × Bool := if longM r y && decide (r.l < m0) then (m0 - 1, m0 == r.l + 1) else (m0, false)
theorem moonI_eq (r : Lun) (d : Int) : moonI r d = ⟨yI r d, (nameM r (yI r d) (mI r d - FI r (yI r d) + 1)).1, d - BI r (mI r d) + 1, (nameM r (yI r d) (mI r d - FI r (yI r d) + 1)).2⟩ := by
  unfold moonI nameM
  rw [show m0I r d = mI r d - FI r (yI r d) + 1 from rfl]
  split <;> rfl
theorem BI_ge {r : Lun} (ok : LunOk r) {n : Int} (h : 0 ≤ n) : 27 * n ≤ BI r n := by
  obtain ⟨p, d, f, y, m, s, l⟩ := ok
  unfold BI atW
  rw [Int.le_ediv_iff_mul_le (by omega)]
  have := Int.mul_le_mul_of_nonneg_left d.1 h
  have e : n * (27 * r.p) = 27 * n * r.p := by rw [← Int.mul_assoc, Int.mul_comm n 27]
  have e2 : n * r.d = r.d * n := Int.mul_comm _ _
  omega
theorem FI_ge {r : Lun} (ok : LunOk r) {n : Int} (h : 0 ≤ n) : 12 * n ≤ FI r n := by
  obtain ⟨p, d, f, y, m, s, l⟩ := ok
  unfold FI atW
  rw [Int.le_ediv_iff_mul_le (by omega)]
  have := Int.mul_le_mul_of_nonneg_left m.1 h
  have e : n * (12 * r.y) = 12 * n * r.y := by rw [← Int.mul_assoc, Int.mul_comm n 12]
  have e2 : n * r.m = r.m * n := Int.mul_comm _ _
  omega
theorem name_bd {r : Lun} (ok : LunOk r) {y m0 : Int} (h1 : 1 ≤ m0) (h2 : m0 ≤ FI r (y + 1) - FI r y) : 1 ≤ (nameM r y m0).1 ∧ (nameM r y m0).1 ≤ 12 ∧ ((nameM r y m0).2 = true → (nameM r y m0).1 = r.l ∧ longM r y = true) := by
  have h4 := FI_step ok y
  have h5 := ok.l
  unfold nameM
  split
  · rename_i h
    simp only [Bool.and_eq_true, decide_eq_true_eq] at h
    obtain ⟨h6, h7⟩ := h
    have h8 := longM_iff.1 h6
    refine ⟨by simp only; omega, by simp only; omega, fun h => ?_⟩
    simp only [beq_iff_eq] at h
    exact ⟨by simp only; omega, h6⟩
  · rename_i h
    simp only [Bool.and_eq_true, decide_eq_true_eq, not_and] at h
    refine ⟨h1, ?_, fun h => by simp at h⟩
    simp only
    by_cases hl : longM r y = true
    · have := h hl; omega
    · have hne : FI r (y + 1) - FI r y ≠ 13 := fun h => hl (longM_iff.2 h)
      omega
theorem monN_name {r : Lun} {y m0 d : Int} (h1 : 1 ≤ m0) : monN r ⟨y, (nameM r y m0).1, d, (nameM r y m0).2⟩ = FI r y + m0 - 1 := by
  unfold monN nameM
  cases hl : longM r y with
  | false => simp [hl]
  | true =>
    by_cases h : r.l < m0
    · simp only [hl, h, decide_true, Bool.and_self, if_true, Bool.true_and]
      by_cases h2 : m0 = r.l + 1
      · subst h2; simp; omega
      · rw [if_pos (by simp; left; omega)]; omega
    · simp only [hl, h, decide_false, Bool.and_false, Bool.false_eq_true, if_false, Bool.or_false, Bool.and_self]
theorem moon_back {r : Lun} (ok : LunOk r) {day : Int} (d0 : 0 ≤ day) (d1 : day ≤ 999999) : ldayR r (moonI r day) = (day, 0) ∧ nextM (moonI r day) (moonI r (day + 1)) ∧ 0 ≤ (moonI r day).y ∧ ((moonI r day).k = true → (moonI r day).m = r.l) := by
  have h1 := mI_spec ok day
  have h2 := yI_spec ok day
  have h3 := BI_step ok (mI r day)
  have h4 := FI_step ok (yI r day)
  have hm0 := (mI_bd ok d0 (by omega)).1
  have hy0 := (yI_bd ok d0 (by omega)).1
  have hb := BI_ge ok hm0
  have hf := FI_ge ok hy0
  have h1n := mI_is ok (d := day + 1) (n := mI r day)
  have h2n := mI_is ok (d := day + 1) (n := mI r day + 1)
  have hy1 := fun h => yI_is ok (d := day + 1) (y := yI r day) h
  have hy2 := fun h => yI_is ok (d := day + 1) (y := yI r day + 1) h
  have h3b := BI_step ok (mI r day + 1)
  have h4b := FI_step ok (yI r day + 1)
  rw [moonI_eq r day, moonI_eq r (day + 1)]
  generalize mI r day = M at *
  generalize yI r day = Y at *
  obtain ⟨n1, n2, n3⟩ := name_bd ok (y := Y) (m0 := M - FI r Y + 1) (by omega) (by omega)
  have hmn := monN_name (r := r) (y := Y) (m0 := M - FI r Y + 1) (d := day - BI r M + 1) (by omega)
  have hmn2 : FI r Y + (M - FI r Y + 1) - 1 = M := by omega
  rw [hmn2] at hmn
  refine ⟨?_, ?_, hy0, fun h => (n3 h).1⟩
  · have b1 : inB Y 0 4000 = true := inB_iff.2 (by omega)
    have b2 : badL r ⟨Y, (nameM r Y (M - FI r Y + 1)).1, day - BI r M + 1, (nameM r Y (M - FI r Y + 1)).2⟩ = false := by
      unfold badL
      rw [hmn]
      have c1 : inB (nameM r Y (M - FI r Y + 1)).1 1 12 = true := inB_iff.2 ⟨n1, n2⟩
      have c2 : inB (day - BI r M + 1) 1 (BI r (M + 1) - BI r M) = true := inB_iff.2 (by omega)
      simp only [c1, c2, Bool.not_true, Bool.or_false, Bool.false_or]
      cases hk : (nameM r Y (M - FI r Y + 1)).2 with
      | false => rfl
      | true => obtain ⟨q1, q2⟩ := n3 hk; rw [q1, q2]; simp
    unfold ldayR
    simp only [lunB_iff.2 ok, b1, b2, hmn, if_true, Bool.false_eq_true, if_false, show BI r M + (day - BI r M + 1) - 1 = day by omega, inB_iff.2 (show (0 : Int) ≤ day ∧ day ≤ 1000000 by omega)]
  · by_cases c1 : day + 1 < BI r (M + 1)
    · have e1 := h1n (by omega) c1
      have e2 := hy1 (by rw [e1]; exact h2.1) (by rw [e1]; exact h2.2)
      rw [e1, e2]
      exact .inl ⟨by simp only; omega, rfl, rfl, rfl⟩
    · have e1 := h2n (by omega) (by omega)
      by_cases c2 : M + 1 < FI r (Y + 1)
      · have e2 := hy1 (by rw [e1]; omega) (by rw [e1]; exact c2)
        rw [e1, e2]
        unfold nameM
        cases hl : longM r Y with
        | false =>
          simp only [Bool.false_and, Bool.false_eq_true, if_false]
          exact .inr (.inl ⟨by simp only; omega, by simp only; omega, rfl, rfl, by simp only; omega⟩)
        | true =>
          simp only [Bool.true_and, decide_eq_true_eq]
          by_cases g1 : r.l < M - FI r Y + 1
          · rw [if_pos g1, if_pos (by omega)]
            exact .inr (.inl ⟨by simp only; omega, by simp only; omega, rfl, by simp only [beq_eq_false_iff_ne]; omega, by simp only; omega⟩)
          · rw [if_neg g1]
            by_cases g2 : r.l < M + 1 - FI r Y + 1
            · rw [if_pos g2]
              exact .inr (.inr (.inl ⟨by simp only; omega, by simp only; omega, rfl, by simp only [beq_iff_eq]; omega, rfl, by simp only; omega⟩))
            · rw [if_neg g2]
              exact .inr (.inl ⟨by simp only; omega, by simp only; omega, rfl, rfl, by simp only; omega⟩)
      · have e2 := hy2 (by rw [e1]; omega) (by rw [e1]; omega)
        rw [e1, e2]
        have hl5 := ok.l
        have k1 : nameM r (Y + 1) (M + 1 - FI r (Y + 1) + 1) = (1, false) := by
          unfold nameM
          rw [show M + 1 - FI r (Y + 1) + 1 = 1 by omega, if_neg (by simp; omega)]
        have k2 : (nameM r Y (M - FI r Y + 1)).1 = 12 := by
          unfold nameM
          cases hl : longM r Y with
          | false =>
            have hne : FI r (Y + 1) - FI r Y ≠ 13 := fun h => by rw [longM_iff.2 h] at hl; cases hl
            simp; omega
          | true =>
            have := longM_iff.1 hl
            rw [if_pos (by simp; omega)]; simp only; omega
        rw [k1, k2]
        exact .inr (.inr (.inr ⟨by simp only; omega, rfl, rfl, rfl, rfl, by simp only; omega⟩))
end Go.Proofs.Ytfbnllmmoaialaa
namespace Go.Proofs.Ytfbnllmmoaialaa
open Go.RowKit

theorem solarV {e b u day ay am ad : Int} (hs : solB ⟨e, b, u⟩ = true) (h0 : 0 ≤ day) (h1 : day ≤ 1000000) (h : solI ⟨e, b, u⟩ day = ⟨ay, am, ad⟩) (w : World) : Calls Try.prog 41 #[.agg #[.int .i64 e, .int .i64 b, .int .i64 u], .int .i64 day] w fun en w' => en = .returned (.tuple #[.agg #[.int .i64 ay, .int .i64 am, .int .i64 ad], .int .i64 0]) ∧ Below w.heap.size w w' := by
  have h2 := solarF_any e b u day w
  have : solarR ⟨e, b, u⟩ day = (⟨ay, am, ad⟩, 0) := by unfold solarR; rw [hs, inB_iff.2 ⟨h0, h1⟩, h]; rfl
  rw [this] at h2
  exact h2
theorem solarVn {e b u day : Int} (hs : solB ⟨e, b, u⟩ = false) (w : World) : Calls Try.prog 41 #[.agg #[.int .i64 e, .int .i64 b, .int .i64 u], .int .i64 day] w fun en w' => en = .returned (.tuple #[.agg #[.int .i64 0, .int .i64 0, .int .i64 0], .int .i64 2]) ∧ Below w.heap.size w w' := by
  have h2 := solarF_any e b u day w
  have : solarR ⟨e, b, u⟩ day = (⟨0, 0, 0⟩, 2) := by unfold solarR; rw [hs]; rfl
  rw [this] at h2
  exact h2
theorem lunarV {d p f m y s l day ay am ad : Int} {ak : Bool} (hs : lunB ⟨d, p, f, m, y, s, l⟩ = true) (h0 : 0 ≤ day) (h1 : day ≤ 1000000) (h : moonI ⟨d, p, f, m, y, s, l⟩ day = ⟨ay, am, ad, ak⟩) (w : World) : Calls Try.prog 46 #[.agg #[.int .i64 d, .int .i64 p, .int .i64 f, .int .i64 m, .int .i64 y, .int .i64 s, .int .i64 l], .int .i64 day] w fun en w' => en = .returned (.tuple #[.agg #[.int .i64 ay, .int .i64 am, .int .i64 ad, .bool ak], .int .i64 0]) ∧ Below w.heap.size w w' := by
  have h2 := lunarF_any d p f m y s l day w
  have : lunarR ⟨d, p, f, m, y, s, l⟩ day = (⟨ay, am, ad, ak⟩, 0) := by unfold lunarR; rw [hs, inB_iff.2 ⟨h0, h1⟩, h]; rfl
  rw [this] at h2
  exact h2
theorem lunarVn {d p f m y s l day : Int} (hs : lunB ⟨d, p, f, m, y, s, l⟩ = false) (w : World) : Calls Try.prog 46 #[.agg #[.int .i64 d, .int .i64 p, .int .i64 f, .int .i64 m, .int .i64 y, .int .i64 s, .int .i64 l], .int .i64 day] w fun en w' => en = .returned (.tuple #[.agg #[.int .i64 0, .int .i64 0, .int .i64 0, .bool false], .int .i64 2]) ∧ Below w.heap.size w w' := by
  have h2 := lunarF_any d p f m y s l day w
  have : lunarR ⟨d, p, f, m, y, s, l⟩ day = (⟨0, 0, 0, false⟩, 2) := by unfold lunarR; rw [hs]; rfl
  rw [this] at h2
  exact h2
def nextS1 (a b : SDate) : Prop := b.d = a.d + 1 ∧ b.m = a.m ∧ b.y = a.y
def nextS2 (a b : SDate) : Prop := b.d = 1 ∧ b.m = a.m + 1 ∧ b.y = a.y ∧ 28 ≤ a.d
def nextS3 (a b : SDate) : Prop := b.d = 1 ∧ b.m = 1 ∧ b.y = a.y + 1 ∧ a.m = 12 ∧ a.d = 31
end Go.Proofs.Ytfbnllmmoaialaa
namespace Go.Proofs.Ytfbnllmmoaialaa
open Go.RowKit

set_option maxRecDepth 100000 in
set_option maxHeartbeats 8000000 in
theorem lwback_0 (e b u d p f m y s l bY : Int) (w : World) (h0 : 0 ≤ bY) (h1 : bY < 4294967296) (hs : solB ⟨e, b, u⟩ = false) :
    Calls Try.prog 13 #[.agg #[.int .i64 e, .int .i64 b, .int .i64 u], .agg #[.int .i64 d, .int .i64 p, .int .i64 f, .int .i64 m, .int .i64 y, .int .i64 s, .int .i64 l], .int .u32 bY] w fun en w' => en = .returned (.bool true) ∧ Below w.heap.size w w' := by
  obtain ⟨day, hday⟩ : ∃ d, d = bY % 1000000 := ⟨_, rfl⟩
  have d0 : 0 ≤ day := by omega
  have d1 : day ≤ 999999 := by omega
  have w1d : IntKind.i64.wrap (day + 1) = day + 1 := IntWalk.i64_in _ ⟨by omega, by omega⟩
  have HS1 := Lib.hid (fun W => solarVn (day := day) hs W)
  have HD := Lib.hid hday
  clear hs hday
  go_enter Try.func13, Try.ntmps13
  go_upto_region 2 with fail
  rw [← HD.out]
  obtain ⟨q3, hq3⟩ : ∃ n, n = w.heap.size := ⟨_, rfl⟩
  rw [← hq3]
  refine gen_w (fun W => (Below w.heap.size w W ∧ Blk W q3 #[.int .i64 e, .int .i64 b, .int .i64 u] 24 ∧ Blk W (q3 + 1) #[.int .i64 d, .int .i64 p, .int .i64 f, .int .i64 m, .int .i64 y, .int .i64 s, .int .i64 l] 26)) ⟨by (repeat (first | exact Below.refl _ _ | assumption | (refine Below.alloc ?_ (by first | omega | (simp; omega) | (simp; done)) _) | (refine Below.setCell ?_ (by first | omega | (simp; omega) | (simp; done)) _) | (refine Below.drew ?_) | (refine belowN ?_ _) | (refine Below.trans ?_ (Below.mono ‹Below _ _ _› (by first | omega | (simp; omega) | (simp; done)))))), (Blk.at_ hq3).alloc _, Blk.at_ (by simp [hq3])⟩ ?_
  clear hq3
  rintro V ⟨hw, g3, g4⟩
  (have c0 := g3.cell 0; have c1 := g3.cell 1; have c2 := g3.cell 2; simp at c0 c1 c2)
  go_upto_region 14 with (go_at_call 41; (with_reducible refine (HS1.out _).mono ?_); rintro _ W1 ⟨rfl, hb1⟩)
  obtain ⟨p8, hp8⟩ : ∃ n, n = W1.heap.size := ⟨_, rfl⟩
  rw [← hp8]
  clear hp8
  refine gen_w (fun W => (Below w.heap.size w W ∧ Blk W q3 #[.int .i64 e, .int .i64 b, .int .i64 u] 24 ∧ Blk W (q3 + 1) #[.int .i64 d, .int .i64 p, .int .i64 f, .int .i64 m, .int .i64 y, .int .i64 s, .int .i64 l] 26)) ⟨bla (bl2 hw hb1), (g3.below hb1 g3.lt).alloc _, (g4.below hb1 g4.lt).alloc _⟩ ?_
  clear hb1 hw g3 g4 c0 c1 c2
  clear V W1
  rintro V ⟨hw, g3, g4⟩
  have hw := hw
  (have c0 := g4.cell 0; have c1 := g4.cell 1; have c2 := g4.cell 2; have c3 := g4.cell 3; have c4 := g4.cell 4; have c5 := g4.cell 5; have c6 := g4.cell 6; simp at c0 c1 c2 c3 c4 c5 c6)
  cases hl : lunB ⟨d, p, f, m, y, s, l⟩ with
  | false =>
    have HL1 := Lib.hid (fun W => lunarVn (day := day) hl W)
    clear hl
    go_wp2_with (first | (go_at_call 46; (with_reducible refine (HL1.out _).mono ?_); rintro _ W1 ⟨rfl, hb1⟩) | (go_at_call 17; refine (known_any _).mono ?_; rintro _ WK ⟨rfl, hbK⟩))
    go_ret
    exact ⟨rfl, bl2 (bla (bl2 hw hb1)) hbK⟩
  | true =>
    obtain ⟨l1, l2, l3, l4⟩ := moon_back (lunB_iff.1 hl) d0 d1
    have lbd := moonI_bd (lunB_iff.1 hl) (d := day)
    obtain ⟨a, ha⟩ : ∃ a, a = moonI ⟨d, p, f, m, y, s, l⟩ day := ⟨_, rfl⟩
    obtain ⟨a', ha'⟩ : ∃ a, a = moonI ⟨d, p, f, m, y, s, l⟩ (day + 1) := ⟨_, rfl⟩
    rw [← ha] at l1 l2 l3 l4 lbd
    rw [← ha'] at l2
    obtain ⟨ay2, am2, ad2, ak2⟩ := a
    obtain ⟨by2, bm2, bd2, bk2⟩ := a'
    simp only at l3 lbd l4
    simp only [nextM] at l2
    have HL1 := Lib.hid (fun W => lunarV hl d0 (by omega) ha.symm W)
    have HL2 := Lib.hid (fun W => lunarV hl (by omega) (by omega) ha'.symm W)
    have HL3 := Lib.hid (fun W => (by have h := lunarDay_any d p f m y s l ay2 am2 ad2 ak2 W; rw [l1] at h; exact h : Calls Try.prog 47 #[.agg #[.int .i64 d, .int .i64 p, .int .i64 f, .int .i64 m, .int .i64 y, .int .i64 s, .int .i64 l], .agg #[.int .i64 ay2, .int .i64 am2, .int .i64 ad2, .bool ak2]] W fun en w' => en = .returned (.tuple #[.int .i64 day, .int .i64 0]) ∧ Below W.heap.size W w'))
    have hyb2 : ay2 ≤ 1000003 := by
      have h9 := (yI_bd (lunB_iff.1 hl) d0 (by omega : day ≤ 1000001)).2
      have h8 : ay2 = yI ⟨d, p, f, m, y, s, l⟩ day := by have := congrArg LDate.y ha; rw [moonI_eq] at this; exact this
      omega
    have t1 : decide (ay2 < 0) = false := by simp; omega
    have t2 : decide (am2 < 1) = false := by simp; omega
    have t3 : decide (12 < am2) = false := by simp; omega
    have t4 : decide (ad2 < 1) = false := by simp; omega
    have t5 : decide (31 < ad2) = false := by simp; omega
    have wy2 : IntKind.i64.wrap (ay2 + 1) = ay2 + 1 := IntWalk.i64_in _ ⟨by omega, by omega⟩
    have wm2 : IntKind.i64.wrap (am2 + 1) = am2 + 1 := IntWalk.i64_in _ ⟨by omega, by omega⟩
    have wd2 : IntKind.i64.wrap (ad2 + 1) = ad2 + 1 := IntWalk.i64_in _ ⟨by omega, by omega⟩
    have HL4 := Lib.hid l4
    clear ha ha' l1 hl l4
    go_upto_region 16 with (go_at_call 46; (with_reducible refine (HL1.out _).mono ?_); rintro _ W1 ⟨rfl, hb1⟩)
    obtain ⟨p14, hp14⟩ : ∃ n, n = W1.heap.size := ⟨_, rfl⟩
    rw [← hp14]
    refine gen_w (fun W => Below w.heap.size w W ∧ Blk W (q3 + 1) #[.int .i64 d, .int .i64 p, .int .i64 f, .int .i64 m, .int .i64 y, .int .i64 s, .int .i64 l] 26 ∧ Blk W p14 #[.int .i64 ay2, .int .i64 am2, .int .i64 ad2, .bool ak2] 77) ⟨bla (bl2 hw hb1), (g4.below hb1 g4.lt).alloc _, Blk.at_ hp14⟩ ?_
    clear hb1 hp14 hw g4 c0 c1 c2 c3 c4 c5 c6
    clear W1
    rintro V2 ⟨hw, g4, g14⟩
    (have c0 := g4.cell 0; have c1 := g4.cell 1; have c2 := g4.cell 2; have c3 := g4.cell 3; have c4 := g4.cell 4; have c5 := g4.cell 5; have c6 := g4.cell 6; simp at c0 c1 c2 c3 c4 c5 c6)
    go_upto_region 17 with (go_at_call 46; (with_reducible refine (HL2.out _).mono ?_); rintro _ W1 ⟨rfl, hb1⟩)
    obtain ⟨p16, hp16⟩ : ∃ n, n = W1.heap.size := ⟨_, rfl⟩
    rw [← hp16]
    refine gen_w (fun W => Below w.heap.size w W ∧ Blk W (q3 + 1) #[.int .i64 d, .int .i64 p, .int .i64 f, .int .i64 m, .int .i64 y, .int .i64 s, .int .i64 l] 26 ∧ Blk W p14 #[.int .i64 ay2, .int .i64 am2, .int .i64 ad2, .bool ak2] 77 ∧ Blk W p16 #[.int .i64 by2, .int .i64 bm2, .int .i64 bd2, .bool bk2] 77) ⟨bla (bl2 hw hb1), (g4.below hb1 g4.lt).alloc _, (g14.below hb1 g14.lt).alloc _, Blk.at_ hp16⟩ ?_
    clear hb1 hp16 hw g4 g14 c0 c1 c2 c3 c4 c5 c6
    clear V2 W1
    rintro V2 ⟨hw, g4, g14, g16⟩
    (have c0 := g4.cell 0; have c1 := g4.cell 1; have c2 := g4.cell 2; have c3 := g4.cell 3; have c4 := g4.cell 4; have c5 := g4.cell 5; have c6 := g4.cell 6; simp at c0 c1 c2 c3 c4 c5 c6)
    have a0 := g14.cell 0; have a1 := g14.cell 1; have a2 := g14.cell 2; have a3 := g14.cell 3
    simp at a0 a1 a2 a3
    go_upto_region 18 with (go_at_call 47; (with_reducible refine (HL3.out _).mono ?_); rintro _ W1 ⟨rfl, hb1⟩)
    refine gen_w (fun W => Below w.heap.size w W ∧ Blk W (q3 + 1) #[.int .i64 d, .int .i64 p, .int .i64 f, .int .i64 m, .int .i64 y, .int .i64 s, .int .i64 l] 26 ∧ Blk W p14 #[.int .i64 ay2, .int .i64 am2, .int .i64 ad2, .bool ak2] 77 ∧ Blk W p16 #[.int .i64 by2, .int .i64 bm2, .int .i64 bd2, .bool bk2] 77) ⟨bl2 hw hb1, g4.below hb1 g4.lt, g14.below hb1 g14.lt, g16.below hb1 g16.lt⟩ ?_
    clear hb1 hw g4 g14 g16 c0 c1 c2 c3 c4 c5 c6 a0 a1 a2 a3
    clear V2 W1
    rintro V2 ⟨hw, g4, g14, g16⟩
    have a0 := g14.cell 0; have a1 := g14.cell 1; have a2 := g14.cell 2; have a3 := g14.cell 3
    have e0 := g16.cell 0; have e1 := g16.cell 1; have e2 := g16.cell 2; have e3 := g16.cell 3; have c6 := g4.cell 6
    simp at a0 a1 a2 a3 e0 e1 e2 e3 c6
    clear HL1 HL2 HL3
    have hk : (ak2 && (am2 != l)) = false := by
      cases ak2 with
      | false => rfl
      | true => have := HL4.out rfl; simp [this]
    have HKK := Lib.hid hk
    clear hk
    clear g16
    rcases l2 with ⟨E1, E2, E3, E4⟩ | ⟨E1, E2, E3, E4, h27⟩ | ⟨E1, E2, E3, E4, rfl, h27⟩ | ⟨E1, E2, E3, E4, E5, h27⟩
    · rw [E1] at e2; rw [E2] at e1; rw [E3] at e0; rw [E4] at e3; clear E1 E2 E3 E4
      cases ak2 with
      | false =>
        go_wp2_with (go_at_call 17; refine (known_any _).mono ?_; rintro _ WK ⟨rfl, hbK⟩)
        go_ret
        exact ⟨rfl, bl2 hw hbK⟩
      | true =>
        obtain rfl : am2 = l := HL4.out rfl
        go_wp2_with (go_at_call 17; refine (known_any _).mono ?_; rintro _ WK ⟨rfl, hbK⟩)
        go_ret
        exact ⟨rfl, bl2 hw hbK⟩
    · rw [E1] at e2; rw [E2] at e1; rw [E3] at e0; rw [E4] at e3; clear E1 E2 E3 E4
      have u1 : ((1 : Int) == ad2 + 1) = false := by simp; omega
      have u2 : decide (27 ≤ ad2) = true := by simp; omega
      cases ak2 with
      | false =>
        go_wp2_with (go_at_call 17; refine (known_any _).mono ?_; rintro _ WK ⟨rfl, hbK⟩)
        go_ret
        exact ⟨rfl, bl2 hw hbK⟩
      | true =>
        obtain rfl : am2 = l := HL4.out rfl
        go_wp2_with (go_at_call 17; refine (known_any _).mono ?_; rintro _ WK ⟨rfl, hbK⟩)
        go_ret
        exact ⟨rfl, bl2 hw hbK⟩
    · rw [E1] at e2; rw [E2] at e1; rw [E3] at e0; rw [E4] at e3; clear E1 E2 E3 E4
      have u1 : ((1 : Int) == ad2 + 1) = false := by simp; omega
      have u2 : decide (27 ≤ ad2) = true := by simp; omega
      have u3 : (am2 == am2 + 1) = false := by simp; omega
      go_wp2_with (go_at_call 17; refine (known_any _).mono ?_; rintro _ WK ⟨rfl, hbK⟩)
      go_ret
      exact ⟨rfl, bl2 hw hbK⟩
    · rw [E1] at e2; rw [E2] at e1; rw [E3] at e0; rw [E4] at e3; clear E1 E2 E3 E4
      have u1 : ((1 : Int) == ad2 + 1) = false := by simp; omega
      have u2 : decide (27 ≤ ad2) = true := by simp; omega
      subst E5
      cases ak2 with
      | false =>
        go_wp2_with (go_at_call 17; refine (known_any _).mono ?_; rintro _ WK ⟨rfl, hbK⟩)
        go_ret
        exact ⟨rfl, bl2 hw hbK⟩
      | true =>
        have hl12 : (12 : Int) = l := HL4.out rfl
        subst hl12
        go_wp2_with (go_at_call 17; refine (known_any _).mono ?_; rintro _ WK ⟨rfl, hbK⟩)
        go_ret
        exact ⟨rfl, bl2 hw hbK⟩
end Go.Proofs.Ytfbnllmmoaialaa
namespace Go.Proofs.Ytfbnllmmoaialaa
open Go.RowKit

set_option maxRecDepth 100000 in
set_option maxHeartbeats 8000000 in
theorem lwback_1 (e b u d p f m y s l bY : Int) (w : World) (h0 : 0 ≤ bY) (h1 : bY < 4294967296) (hs : solB ⟨e, b, u⟩ = true)
    (hc : nextS1 (solI ⟨e, b, u⟩ (bY % 1000000)) (solI ⟨e, b, u⟩ (bY % 1000000 + 1))) :
    Calls Try.prog 13 #[.agg #[.int .i64 e, .int .i64 b, .int .i64 u], .agg #[.int .i64 d, .int .i64 p, .int .i64 f, .int .i64 m, .int .i64 y, .int .i64 s, .int .i64 l], .int .u32 bY] w fun en w' => en = .returned (.bool true) ∧ Below w.heap.size w w' := by
  obtain ⟨day, hday⟩ : ∃ d, d = bY % 1000000 := ⟨_, rfl⟩
  have d0 : 0 ≤ day := by omega
  have d1 : day ≤ 999999 := by omega
  have w1d : IntKind.i64.wrap (day + 1) = day + 1 := IntWalk.i64_in _ ⟨by omega, by omega⟩
  rw [← hday] at hc
  obtain ⟨b1, -, b3⟩ := sol_back (solB_iff.1 hs) d0 d1
  have bd := solI_bd (solB_iff.1 hs) d0 (by omega : day ≤ 1000000)
  obtain ⟨a, ha⟩ : ∃ a, a = solI ⟨e, b, u⟩ day := ⟨_, rfl⟩
  obtain ⟨a', ha'⟩ : ∃ a, a = solI ⟨e, b, u⟩ (day + 1) := ⟨_, rfl⟩
  rw [← ha] at b1 b3 bd hc
  rw [← ha'] at hc
  obtain ⟨ay, am, ad⟩ := a
  obtain ⟨by', bm, bd'⟩ := a'
  simp only at bd b3
  have HC := Lib.hid hc; clear hc
  have HS1 := Lib.hid (fun W => solarV hs d0 (by omega) ha.symm W)
  have HS2 := Lib.hid (fun W => solarV hs (by omega) (by omega) ha'.symm W)
  have HS3 := Lib.hid (fun W => (by have h := solarDay_any e b u ay am ad W ⟨by omega, by omega⟩; rw [b1] at h; exact h : Calls Try.prog 42 #[.agg #[.int .i64 e, .int .i64 b, .int .i64 u], .agg #[.int .i64 ay, .int .i64 am, .int .i64 ad]] W fun en w' => en = .returned (.tuple #[.int .i64 day, .int .i64 0]) ∧ Below W.heap.size W w'))
  have t1 : decide (ay < 0) = false := by simp; omega
  have t2 : decide (am < 1) = false := by simp; omega
  have t3 : decide (12 < am) = false := by simp; omega
  have t4 : decide (ad < 1) = false := by simp; omega
  have t5 : decide (31 < ad) = false := by simp; omega
  have hyb : ay ≤ 4000 := by
    have h9 := yearI_spec (solB_iff.1 hs) d0 (by omega : day ≤ 1000000)
    have h8 : ay = (yearI ⟨e, b, u⟩ day : Int) := by have := congrArg SDate.y ha; exact this
    omega
  have wy : IntKind.i64.wrap (ay + 1) = ay + 1 := IntWalk.i64_in _ ⟨by omega, by omega⟩
  have wm : IntKind.i64.wrap (am + 1) = am + 1 := IntWalk.i64_in _ ⟨by omega, by omega⟩
  have wd : IntKind.i64.wrap (ad + 1) = ad + 1 := IntWalk.i64_in _ ⟨by omega, by omega⟩
  have HD := Lib.hid hday
  clear ha ha' b1 hs hday
  go_enter Try.func13, Try.ntmps13
  go_upto_region 2 with fail
  rw [← HD.out]
  obtain ⟨q3, hq3⟩ : ∃ n, n = w.heap.size := ⟨_, rfl⟩
  rw [← hq3]
  refine gen_w (fun W => (Below w.heap.size w W ∧ Blk W q3 #[.int .i64 e, .int .i64 b, .int .i64 u] 24 ∧ Blk W (q3 + 1) #[.int .i64 d, .int .i64 p, .int .i64 f, .int .i64 m, .int .i64 y, .int .i64 s, .int .i64 l] 26)) ⟨by (repeat (first | exact Below.refl _ _ | assumption | (refine Below.alloc ?_ (by first | omega | (simp; omega) | (simp; done)) _) | (refine Below.setCell ?_ (by first | omega | (simp; omega) | (simp; done)) _) | (refine Below.drew ?_) | (refine belowN ?_ _) | (refine Below.trans ?_ (Below.mono ‹Below _ _ _› (by first | omega | (simp; omega) | (simp; done)))))), (Blk.at_ hq3).alloc _, Blk.at_ (by simp [hq3])⟩ ?_
  clear hq3
  rintro V ⟨hw, g3, g4⟩
  (have c0 := g3.cell 0; have c1 := g3.cell 1; have c2 := g3.cell 2; simp at c0 c1 c2)
  go_upto_region 4 with (go_at_call 41; (with_reducible refine (HS1.out _).mono ?_); rintro _ W1 ⟨rfl, hb1⟩)
  obtain ⟨p8, hp8⟩ : ∃ n, n = W1.heap.size := ⟨_, rfl⟩
  rw [← hp8]
  refine gen_w (fun W => (Below w.heap.size w W ∧ Blk W q3 #[.int .i64 e, .int .i64 b, .int .i64 u] 24 ∧ Blk W (q3 + 1) #[.int .i64 d, .int .i64 p, .int .i64 f, .int .i64 m, .int .i64 y, .int .i64 s, .int .i64 l] 26) ∧ Blk W p8 #[.int .i64 ay, .int .i64 am, .int .i64 ad] 75) ⟨⟨bla (bl2 hw hb1), (g3.below hb1 g3.lt).alloc _, (g4.below hb1 g4.lt).alloc _⟩, Blk.at_ hp8⟩ ?_
  clear hb1 hp8 hw g3 g4 c0 c1 c2
  clear V W1
  rintro V ⟨⟨hw, g3, g4⟩, g8⟩
  (have c0 := g3.cell 0; have c1 := g3.cell 1; have c2 := g3.cell 2; simp at c0 c1 c2)
  go_upto_region 5 with (go_at_call 41; (with_reducible refine (HS2.out _).mono ?_); rintro _ W1 ⟨rfl, hb1⟩)
  obtain ⟨p10, hp10⟩ : ∃ n, n = W1.heap.size := ⟨_, rfl⟩
  rw [← hp10]
  refine gen_w (fun W => (Below w.heap.size w W ∧ Blk W q3 #[.int .i64 e, .int .i64 b, .int .i64 u] 24 ∧ Blk W (q3 + 1) #[.int .i64 d, .int .i64 p, .int .i64 f, .int .i64 m, .int .i64 y, .int .i64 s, .int .i64 l] 26) ∧ Blk W p8 #[.int .i64 ay, .int .i64 am, .int .i64 ad] 75 ∧ Blk W p10 #[.int .i64 by', .int .i64 bm, .int .i64 bd'] 75) ⟨⟨bla (bl2 hw hb1), (g3.below hb1 g3.lt).alloc _, (g4.below hb1 g4.lt).alloc _⟩, (g8.below hb1 g8.lt).alloc _, Blk.at_ hp10⟩ ?_
  clear hb1 hp10 hw g3 g4 g8 c0 c1 c2
  clear V W1
  rintro V ⟨⟨hw, g3, g4⟩, g8, g10⟩
  (have c0 := g3.cell 0; have c1 := g3.cell 1; have c2 := g3.cell 2; simp at c0 c1 c2)
  have a0 := g8.cell 0; have a1 := g8.cell 1; have a2 := g8.cell 2
  simp at a0 a1 a2
  go_upto_region 6 with (go_at_call 42; (with_reducible refine (HS3.out _).mono ?_); rintro _ W1 ⟨rfl, hb1⟩)
  refine gen_w (fun W => (Below w.heap.size w W ∧ Blk W q3 #[.int .i64 e, .int .i64 b, .int .i64 u] 24 ∧ Blk W (q3 + 1) #[.int .i64 d, .int .i64 p, .int .i64 f, .int .i64 m, .int .i64 y, .int .i64 s, .int .i64 l] 26) ∧ Blk W p8 #[.int .i64 ay, .int .i64 am, .int .i64 ad] 75 ∧ Blk W p10 #[.int .i64 by', .int .i64 bm, .int .i64 bd'] 75) ⟨⟨bl2 hw hb1, g3.below hb1 g3.lt, g4.below hb1 g4.lt⟩, g8.below hb1 g8.lt, g10.below hb1 g10.lt⟩ ?_
  clear hb1 hw g3 g4 g8 g10 c0 c1 c2 a0 a1 a2
  clear V W1
  rintro V ⟨⟨hw, g3, g4⟩, g8, g10⟩
  have a0 := g8.cell 0; have a1 := g8.cell 1; have a2 := g8.cell 2
  have e0 := g10.cell 0; have e1 := g10.cell 1; have e2 := g10.cell 2
  simp at a0 a1 a2 e0 e1 e2
  clear HS1 HS2 HS3
  obtain ⟨E1, E2, E3⟩ := HC.out
  simp only at E1 E2 E3
  rw [E1] at e2; rw [E2] at e1; rw [E3] at e0; clear E1 E2 E3
  clear g10
  go_upto_region 14 with fail
  clear a0 a1 a2 e0 e1 e2
  have hw := hw
  (have c0 := g4.cell 0; have c1 := g4.cell 1; have c2 := g4.cell 2; have c3 := g4.cell 3; have c4 := g4.cell 4; have c5 := g4.cell 5; have c6 := g4.cell 6; simp at c0 c1 c2 c3 c4 c5 c6)
  cases hl : lunB ⟨d, p, f, m, y, s, l⟩ with
  | false =>
    have HL1 := Lib.hid (fun W => lunarVn (day := day) hl W)
    clear hl
    go_wp2_with (first | (go_at_call 46; (with_reducible refine (HL1.out _).mono ?_); rintro _ W1 ⟨rfl, hb1⟩) | (go_at_call 17; refine (known_any _).mono ?_; rintro _ WK ⟨rfl, hbK⟩))
    go_ret
    exact ⟨rfl, bl2 (bla (bl2 hw hb1)) hbK⟩
  | true =>
    obtain ⟨l1, l2, l3, l4⟩ := moon_back (lunB_iff.1 hl) d0 d1
    have lbd := moonI_bd (lunB_iff.1 hl) (d := day)
    obtain ⟨a, ha⟩ : ∃ a, a = moonI ⟨d, p, f, m, y, s, l⟩ day := ⟨_, rfl⟩
    obtain ⟨a', ha'⟩ : ∃ a, a = moonI ⟨d, p, f, m, y, s, l⟩ (day + 1) := ⟨_, rfl⟩
    rw [← ha] at l1 l2 l3 l4 lbd
    rw [← ha'] at l2
    obtain ⟨ay2, am2, ad2, ak2⟩ := a
    obtain ⟨by2, bm2, bd2, bk2⟩ := a'
    simp only at l3 lbd l4
    simp only [nextM] at l2
    have HL1 := Lib.hid (fun W => lunarV hl d0 (by omega) ha.symm W)
    have HL2 := Lib.hid (fun W => lunarV hl (by omega) (by omega) ha'.symm W)
    have HL3 := Lib.hid (fun W => (by have h := lunarDay_any d p f m y s l ay2 am2 ad2 ak2 W; rw [l1] at h; exact h : Calls Try.prog 47 #[.agg #[.int .i64 d, .int .i64 p, .int .i64 f, .int .i64 m, .int .i64 y, .int .i64 s, .int .i64 l], .agg #[.int .i64 ay2, .int .i64 am2, .int .i64 ad2, .bool ak2]] W fun en w' => en = .returned (.tuple #[.int .i64 day, .int .i64 0]) ∧ Below W.heap.size W w'))
    have hyb2 : ay2 ≤ 1000003 := by
      have h9 := (yI_bd (lunB_iff.1 hl) d0 (by omega : day ≤ 1000001)).2
      have h8 : ay2 = yI ⟨d, p, f, m, y, s, l⟩ day := by have := congrArg LDate.y ha; rw [moonI_eq] at this; exact this
      omega
    have t1 : decide (ay2 < 0) = false := by simp; omega
    have t2 : decide (am2 < 1) = false := by simp; omega
    have t3 : decide (12 < am2) = false := by simp; omega
    have t4 : decide (ad2 < 1) = false := by simp; omega
    have t5 : decide (31 < ad2) = false := by simp; omega
    have wy2 : IntKind.i64.wrap (ay2 + 1) = ay2 + 1 := IntWalk.i64_in _ ⟨by omega, by omega⟩
    have wm2 : IntKind.i64.wrap (am2 + 1) = am2 + 1 := IntWalk.i64_in _ ⟨by omega, by omega⟩
    have wd2 : IntKind.i64.wrap (ad2 + 1) = ad2 + 1 := IntWalk.i64_in _ ⟨by omega, by omega⟩
    have HL4 := Lib.hid l4
    clear ha ha' l1 hl l4
    go_upto_region 16 with (go_at_call 46; (with_reducible refine (HL1.out _).mono ?_); rintro _ W1 ⟨rfl, hb1⟩)
    obtain ⟨p14, hp14⟩ : ∃ n, n = W1.heap.size := ⟨_, rfl⟩
    rw [← hp14]
    refine gen_w (fun W => Below w.heap.size w W ∧ Blk W (q3 + 1) #[.int .i64 d, .int .i64 p, .int .i64 f, .int .i64 m, .int .i64 y, .int .i64 s, .int .i64 l] 26 ∧ Blk W p14 #[.int .i64 ay2, .int .i64 am2, .int .i64 ad2, .bool ak2] 77) ⟨bla (bl2 hw hb1), (g4.below hb1 g4.lt).alloc _, Blk.at_ hp14⟩ ?_
    clear hb1 hp14 hw g4 c0 c1 c2 c3 c4 c5 c6
    clear W1
    rintro V2 ⟨hw, g4, g14⟩
    (have c0 := g4.cell 0; have c1 := g4.cell 1; have c2 := g4.cell 2; have c3 := g4.cell 3; have c4 := g4.cell 4; have c5 := g4.cell 5; have c6 := g4.cell 6; simp at c0 c1 c2 c3 c4 c5 c6)
    go_upto_region 17 with (go_at_call 46; (with_reducible refine (HL2.out _).mono ?_); rintro _ W1 ⟨rfl, hb1⟩)
    obtain ⟨p16, hp16⟩ : ∃ n, n = W1.heap.size := ⟨_, rfl⟩
    rw [← hp16]
    refine gen_w (fun W => Below w.heap.size w W ∧ Blk W (q3 + 1) #[.int .i64 d, .int .i64 p, .int .i64 f, .int .i64 m, .int .i64 y, .int .i64 s, .int .i64 l] 26 ∧ Blk W p14 #[.int .i64 ay2, .int .i64 am2, .int .i64 ad2, .bool ak2] 77 ∧ Blk W p16 #[.int .i64 by2, .int .i64 bm2, .int .i64 bd2, .bool bk2] 77) ⟨bla (bl2 hw hb1), (g4.below hb1 g4.lt).alloc _, (g14.below hb1 g14.lt).alloc _, Blk.at_ hp16⟩ ?_
    clear hb1 hp16 hw g4 g14 c0 c1 c2 c3 c4 c5 c6
    clear V2 W1
    rintro V2 ⟨hw, g4, g14, g16⟩
    (have c0 := g4.cell 0; have c1 := g4.cell 1; have c2 := g4.cell 2; have c3 := g4.cell 3; have c4 := g4.cell 4; have c5 := g4.cell 5; have c6 := g4.cell 6; simp at c0 c1 c2 c3 c4 c5 c6)
    have a0 := g14.cell 0; have a1 := g14.cell 1; have a2 := g14.cell 2; have a3 := g14.cell 3
    simp at a0 a1 a2 a3
    go_upto_region 18 with (go_at_call 47; (with_reducible refine (HL3.out _).mono ?_); rintro _ W1 ⟨rfl, hb1⟩)
    refine gen_w (fun W => Below w.heap.size w W ∧ Blk W (q3 + 1) #[.int .i64 d, .int .i64 p, .int .i64 f, .int .i64 m, .int .i64 y, .int .i64 s, .int .i64 l] 26 ∧ Blk W p14 #[.int .i64 ay2, .int .i64 am2, .int .i64 ad2, .bool ak2] 77 ∧ Blk W p16 #[.int .i64 by2, .int .i64 bm2, .int .i64 bd2, .bool bk2] 77) ⟨bl2 hw hb1, g4.below hb1 g4.lt, g14.below hb1 g14.lt, g16.below hb1 g16.lt⟩ ?_
    clear hb1 hw g4 g14 g16 c0 c1 c2 c3 c4 c5 c6 a0 a1 a2 a3
    clear V2 W1
    rintro V2 ⟨hw, g4, g14, g16⟩
    have a0 := g14.cell 0; have a1 := g14.cell 1; have a2 := g14.cell 2; have a3 := g14.cell 3
    have e0 := g16.cell 0; have e1 := g16.cell 1; have e2 := g16.cell 2; have e3 := g16.cell 3; have c6 := g4.cell 6
    simp at a0 a1 a2 a3 e0 e1 e2 e3 c6
    clear HL1 HL2 HL3
    have hk : (ak2 && (am2 != l)) = false := by
      cases ak2 with
      | false => rfl
      | true => have := HL4.out rfl; simp [this]
    have HKK := Lib.hid hk
    clear hk
    clear g16
    rcases l2 with ⟨E1, E2, E3, E4⟩ | ⟨E1, E2, E3, E4, h27⟩ | ⟨E1, E2, E3, E4, rfl, h27⟩ | ⟨E1, E2, E3, E4, E5, h27⟩
    · rw [E1] at e2; rw [E2] at e1; rw [E3] at e0; rw [E4] at e3; clear E1 E2 E3 E4
      cases ak2 with
      | false =>
        go_wp2_with (go_at_call 17; refine (known_any _).mono ?_; rintro _ WK ⟨rfl, hbK⟩)
        go_ret
        exact ⟨rfl, bl2 hw hbK⟩
      | true =>
        obtain rfl : am2 = l := HL4.out rfl
        go_wp2_with (go_at_call 17; refine (known_any _).mono ?_; rintro _ WK ⟨rfl, hbK⟩)
        go_ret
        exact ⟨rfl, bl2 hw hbK⟩
    · rw [E1] at e2; rw [E2] at e1; rw [E3] at e0; rw [E4] at e3; clear E1 E2 E3 E4
      have u1 : ((1 : Int) == ad2 + 1) = false := by simp; omega
      have u2 : decide (27 ≤ ad2) = true := by simp; omega
      cases ak2 with
      | false =>
        go_wp2_with (go_at_call 17; refine (known_any _).mono ?_; rintro _ WK ⟨rfl, hbK⟩)
        go_ret
        exact ⟨rfl, bl2 hw hbK⟩
      | true =>
        obtain rfl : am2 = l := HL4.out rfl
        go_wp2_with (go_at_call 17; refine (known_any _).mono ?_; rintro _ WK ⟨rfl, hbK⟩)
        go_ret
        exact ⟨rfl, bl2 hw hbK⟩
    · rw [E1] at e2; rw [E2] at e1; rw [E3] at e0; rw [E4] at e3; clear E1 E2 E3 E4
      have u1 : ((1 : Int) == ad2 + 1) = false := by simp; omega
      have u2 : decide (27 ≤ ad2) = true := by simp; omega
      have u3 : (am2 == am2 + 1) = false := by simp; omega
      go_wp2_with (go_at_call 17; refine (known_any _).mono ?_; rintro _ WK ⟨rfl, hbK⟩)
      go_ret
      exact ⟨rfl, bl2 hw hbK⟩
    · rw [E1] at e2; rw [E2] at e1; rw [E3] at e0; rw [E4] at e3; clear E1 E2 E3 E4
      have u1 : ((1 : Int) == ad2 + 1) = false := by simp; omega
      have u2 : decide (27 ≤ ad2) = true := by simp; omega
      subst E5
      cases ak2 with
      | false =>
        go_wp2_with (go_at_call 17; refine (known_any _).mono ?_; rintro _ WK ⟨rfl, hbK⟩)
        go_ret
        exact ⟨rfl, bl2 hw hbK⟩
      | true =>
        have hl12 : (12 : Int) = l := HL4.out rfl
        subst hl12
        go_wp2_with (go_at_call 17; refine (known_any _).mono ?_; rintro _ WK ⟨rfl, hbK⟩)
        go_ret
        exact ⟨rfl, bl2 hw hbK⟩
end Go.Proofs.Ytfbnllmmoaialaa

/- almanac: there and back; plain. -/
import Derived.Test.YtfbnllmmoaialaaZ13Ar
import Derived.Test.YtfbnllmmoaialaaAj
import Derived.Test.YtfbnllmmoaialaaZ20Fa
namespace Go.Proofs.Ytfbnllmmoaialaa

theorem sumL_sum (l : List Int) : sumL l = l.sum := rfl
theorem walkM_is : ∀ (l : List Int) (m d : Int) (k : Nat) (hk : k < l.length), (∀ x ∈ l, 0 ≤ x) → 1 ≤ d → d ≤ l[k] → walkM l m ((l.take k).sum + d) = (m + k, d)
  | [], _, _, _, hk, _, _, _ => by simp at hk
  | n :: l, m, d, 0, _, _, h1, h2 => by
    have h2' : d ≤ n := by simpa using h2
    rw [List.take_zero, List.sum_nil, Int.zero_add, walkM, if_pos h2']
    simp
  | n :: l, m, d, k + 1, hk, hn, h1, h2 => by
    have hs : 0 ≤ (l.take k).sum := by
      have : ∀ l : List Int, (∀ x ∈ l, 0 ≤ x) → 0 ≤ l.sum := by
        intro l
        induction l with
        | nil => intro; simp
        | cons x l ih => intro h; simp only [List.sum_cons]; have := ih (fun y hy => h y (by simp [hy])); have := h x (by simp); omega
      exact this _ fun x hx => hn x (by simp [List.mem_of_mem_take hx])
    rw [List.take_succ_cons, List.sum_cons, walkM, if_neg (by omega), show n + (l.take k).sum + d - n = (l.take k).sum + d by omega, walkM_is l (m + 1) d k (by simpa using hk) (fun x hx => hn x (by simp [hx])) h1 (by simpa using h2)]
    rw [show m + 1 + (k : Int) = m + ((k + 1 : Nat) : Int) by omega]
theorem take_sum_le : ∀ (l : List Int) (k : Nat) (hk : k < l.length), (∀ x ∈ l, 0 ≤ x) → (l.take k).sum + l[k] ≤ l.sum
  | n :: l, 0, _, h => by
    have : ∀ l : List Int, (∀ x ∈ l, 0 ≤ x) → 0 ≤ l.sum := by
      intro l
      induction l with
      | nil => intro; simp
      | cons x l ih => intro h; simp only [List.sum_cons]; have := ih (fun y hy => h y (by simp [hy])); have := h x (by simp); omega
    have := this l (fun x hx => h x (by simp [hx]))
    simp; omega
  | n :: l, k + 1, hk, h => by
    have := take_sum_le l k (by simpa using hk) (fun x hx => h x (by simp [hx]))
    simp only [List.take_succ_cons, List.sum_cons, List.getElem_cons_succ]; omega
theorem extra_bd2 {r : Sol} (ok : SolOk r) {y : Int} (y0 : 0 ≤ y) : 0 ≤ extraN r y ∧ extraN r y ≤ 1 := by rw [extraN_eq ok y0]; split <;> omega
theorem monL_nn {x : Int} (x0 : 0 ≤ x) : ∀ y ∈ monL x, 0 ≤ y := by
  intro y hy
  simp only [monL, List.mem_cons, List.not_mem_nil, or_false] at hy
  rcases hy with rfl | rfl | rfl | rfl | rfl | rfl | rfl | rfl | rfl | rfl | rfl | rfl <;> omega
theorem take_nn {l : List Int} (h : ∀ x ∈ l, 0 ≤ x) (k : Nat) : 0 ≤ (l.take k).sum := by
  have : ∀ l : List Int, (∀ x ∈ l, 0 ≤ x) → 0 ≤ l.sum := by
    intro l
    induction l with
    | nil => intro; simp
    | cons x l ih => intro h; simp only [List.sum_cons]; have := ih (fun y hy => h y (by simp [hy])); have := h x (by simp); omega
  exact this _ fun x hx => h x (List.mem_of_mem_take hx)
/-- a date is the date of its day -/
theorem solI_is {r : Sol} (ok : SolOk r) {y k : Nat} {d day : Int} (hy : y ≤ 2740) (hk : k < (monL (extraN r y)).length) (h1 : 1 ≤ d) (h2 : d ≤ (monL (extraN r y))[k]) (hd : begI r y + ((monL (extraN r y)).take k).sum + d - 1 = day) : solI r day = ⟨(y : Int), (k : Int) + 1, d⟩ := by
  have hx := extra_bd2 ok (y := (y : Int)) (by omega)
  have hnn := monL_nn hx.1
  have ht := take_sum_le _ k hk hnn
  have h0 := take_nn hnn k
  rw [monL_sum] at ht
  have he : extraN r y = begI r ((y : Int) + 1) - begI r y - 365 := rfl
  have hyi : yearI r day = y := yearI_is ok (by omega) (by omega) hy
  unfold solI
  rw [hyi, show day - begI r y + 1 = ((monL (extraN r y)).take k).sum + d by omega, walkM_is _ 1 d k hk hnn h1 h2]
  simp only [SDate.mk.injEq, true_and, and_true]
  omega
/-- the next date -/
def nextS (a b : SDate) : Prop := (b.d = a.d + 1 ∧ b.m = a.m ∧ b.y = a.y) ∨ (b.d = 1 ∧ b.m = a.m + 1 ∧ b.y = a.y ∧ 28 ≤ a.d) ∨ (b.d = 1 ∧ b.m = 1 ∧ b.y = a.y + 1 ∧ a.m = 12 ∧ a.d = 31)
theorem sol_back {r : Sol} (ok : SolOk r) {day : Int} (d0 : 0 ≤ day) (d1 : day ≤ 999999) : dayR r (solI r day) = (day, 0) ∧ nextS (solI r day) (solI r (day + 1)) ∧ 0 ≤ (solI r day).y := by
  have hsp := solI_spec ok d0 (by omega : day ≤ 1000000)
  have hys := yearI_spec ok d0 (by omega : day ≤ 1000000)
  generalize yearI r day = y at hsp hys
  obtain ⟨k, hk2, e1, e2, e3, e4, e5'⟩ := hsp
  obtain ⟨g1, g2, g3⟩ := hys
  have hx := extra_bd2 ok (y := (y : Int)) (by omega)
  have hm := monL_bd hx.1 hx.2 hk2
  have hk12 : k < 12 := hk2
  obtain ⟨a, ha⟩ : ∃ a, a = solI r day := ⟨_, rfl⟩
  rw [← ha] at e1 e2 e3 e4 e5' ⊢
  obtain ⟨ay, am, ad⟩ := a
  simp only at e1 e2 e3 e4 e5'
  subst e1 e2
  refine ⟨?_, ?_, by simp only; omega⟩
  · unfold dayR
    have b1 : inB ((y : Int)) 0 4000 = true := inB_iff.2 (by omega)
    have b2 : inB ((k : Int) + 1) 1 12 = true := inB_iff.2 (by omega)
    have ek : ((k : Int) + 1 - 1).toNat = k := by omega
    have b3 : inB ad 1 ((monL (extraN r y)).getD k 0) = true := inB_iff.2 ⟨e4, by rw [List.getD_eq_getElem?_getD, List.getElem?_eq_getElem hk2]; exact e5'⟩
    have es : begI r y + ad - 1 + sumL ((monL (extraN r y)).take k) = day := by rw [sumL_sum]; omega
    simp only [solB_iff.2 ok, b1, b2, ek, b3, es, if_true, inB_iff.2 (show (0 : Int) ≤ day ∧ day ≤ 1000000 by omega)]
  · by_cases c1 : ad < (monL (extraN r y))[k]
    · rw [solI_is ok (day := day + 1) (d := ad + 1) (by omega) hk2 (by omega) (by omega) (by omega)]
      exact .inl ⟨rfl, rfl, rfl⟩
    · by_cases c2 : k < 11
      · have hk3 : k + 1 < (monL (extraN r y)).length := by show k + 1 < 12; omega
        have hm2 := monL_bd hx.1 hx.2 hk3
        have hts : ((monL (extraN r y)).take (k + 1)).sum = ((monL (extraN r y)).take k).sum + (monL (extraN r y))[k] := by
          rw [List.take_add_one, List.getElem?_eq_getElem hk2, List.sum_append]; simp; rfl
        rw [solI_is ok (day := day + 1) (k := k + 1) (d := 1) (by omega) hk3 (by omega) (by omega) (by rw [hts]; omega)]
        exact .inr (.inl ⟨rfl, by simp only; omega, rfl, by simp only; omega⟩)
      · obtain rfl : k = 11 := by omega
        have hx2 := extra_bd2 ok (y := ((y + 1 : Nat) : Int)) (by omega)
        have hk4 : 0 < (monL (extraN r ((y + 1 : Nat) : Int))).length := by show 0 < 12; omega
        have hm3 := monL_bd hx2.1 hx2.2 hk4
        have h31 : (monL (extraN r y))[11] = 31 := rfl
        have hsum : ((monL (extraN r y)).take 11).sum + 31 = 365 + extraN r y := by rw [← monL_sum]; simp [monL]; omega
        have he : extraN r y = begI r ((y : Int) + 1) - begI r y - 365 := rfl
        rw [solI_is ok (day := day + 1) (y := y + 1) (k := 0) (d := 1) (by omega) hk4 (by omega) (by omega) (by
          have : begI r ((y + 1 : Nat) : Int) = begI r ((y : Int) + 1) := by congr 1
          rw [this]; simp only [List.take_zero, List.sum_nil]; omega)]
        exact .inr (.inr ⟨rfl, by simp, by simp, by simp, by simp only; omega⟩)
/-! by the moon -/
def nextM (a b : LDate) : Prop := (b.d = a.d + 1 ∧ b.m = a.m ∧ b.y = a.y ∧ b.k = a.k) ∨ (b.d = 1 ∧ b.m = a.m + 1 ∧ b.y = a.y ∧ b.k = false ∧ 27 ≤ a.d) ∨ (b.d = 1 ∧ b.m = a.m ∧ b.y = a.y ∧ b.k = true ∧ a.k = false ∧ 27 ≤ a.d) ∨ (b.d = 1 ∧ b.m = 1 ∧ b.y = a.y + 1 ∧ b.k = false ∧ a.m = 12 ∧ 27 ≤ a.d)
/-- the name of a month of a year, by its number in it -/
def nameM (r : Lun) (y m0 : Int) : Int × Bool := if longM r y && decide (r.l < m0) then (m0 - 1, m0 == r.l + 1) else (m0, false)
theorem moonI_eq (r : Lun) (d : Int) : moonI r d = ⟨yI r d, (nameM r (yI r d) (mI r d - FI r (yI r d) + 1)).1, d - BI r (mI r d) + 1, (nameM r (yI r d) (mI r d - FI r (yI r d) + 1)).2⟩ := by
  unfold moonI nameM
  rw [show m0I r d = mI r d - FI r (yI r d) + 1 from rfl]
  split <;> rfl
theorem BI_ge {r : Lun} (ok : LunOk r) {n : Int} (h : 0 ≤ n) : 27 * n ≤ BI r n := by
  obtain ⟨p, d, f, y, m, s, l⟩ := ok
  unfold BI atW
  rw [Int.le_ediv_iff_mul_le (by omega)]
  have := Int.mul_le_mul_of_nonneg_left d.1 h
  have e : n * (27 * r.p) = 27 * n * r.p := by rw [← Int.mul_assoc, Int.mul_comm n 27]
  have e2 : n * r.d = r.d * n := Int.mul_comm _ _
  omega
theorem FI_ge {r : Lun} (ok : LunOk r) {n : Int} (h : 0 ≤ n) : 12 * n ≤ FI r n := by
  obtain ⟨p, d, f, y, m, s, l⟩ := ok
  unfold FI atW
  rw [Int.le_ediv_iff_mul_le (by omega)]
  have := Int.mul_le_mul_of_nonneg_left m.1 h
  have e : n * (12 * r.y) = 12 * n * r.y := by rw [← Int.mul_assoc, Int.mul_comm n 12]
  have e2 : n * r.m = r.m * n := Int.mul_comm _ _
  omega
theorem name_bd {r : Lun} (ok : LunOk r) {y m0 : Int} (h1 : 1 ≤ m0) (h2 : m0 ≤ FI r (y + 1) - FI r y) : 1 ≤ (nameM r y m0).1 ∧ (nameM r y m0).1 ≤ 12 ∧ ((nameM r y m0).2 = true → (nameM r y m0).1 = r.l ∧ longM r y = true) := by
  have h4 := FI_step ok y
  have h5 := ok.l
  unfold nameM
  split
  · rename_i h
    simp only [Bool.and_eq_true, decide_eq_true_eq] at h
    obtain ⟨h6, h7⟩ := h
    have h8 := longM_iff.1 h6
    refine ⟨by simp only; omega, by simp only; omega, fun h => ?_⟩
    simp only [beq_iff_eq] at h
    exact ⟨by simp only; omega, h6⟩
  · rename_i h
    simp only [Bool.and_eq_true, decide_eq_true_eq, not_and] at h
    refine ⟨h1, ?_, fun h => by simp at h⟩
    simp only
    by_cases hl : longM r y = true
    · have := h hl; omega
    · have hne : FI r (y + 1) - FI r y ≠ 13 := fun h => hl (longM_iff.2 h)
      omega
theorem monN_name {r : Lun} {y m0 d : Int} (h1 : 1 ≤ m0) : monN r ⟨y, (nameM r y m0).1, d, (nameM r y m0).2⟩ = FI r y + m0 - 1 := by
  unfold monN nameM
  cases hl : longM r y with
  | false => simp [hl]
  | true =>
    by_cases h : r.l < m0
    · simp only [hl, h, decide_true, Bool.and_self, if_true, Bool.true_and]
      by_cases h2 : m0 = r.l + 1
      · subst h2; simp; omega
      · rw [if_pos (by simp; left; omega)]; omega
    · simp only [hl, h, decide_false, Bool.and_false, Bool.false_eq_true, if_false, Bool.or_false, Bool.and_self]
theorem moon_back {r : Lun} (ok : LunOk r) {day : Int} (d0 : 0 ≤ day) (d1 : day ≤ 999999) : ldayR r (moonI r day) = (day, 0) ∧ nextM (moonI r day) (moonI r (day + 1)) ∧ 0 ≤ (moonI r day).y ∧ ((moonI r day).k = true → (moonI r day).m = r.l) := by
  have h1 := mI_spec ok day
  have h2 := yI_spec ok day
  have h3 := BI_step ok (mI r day)
  have h4 := FI_step ok (yI r day)
  have hm0 := (mI_bd ok d0 (by omega)).1
  have hy0 := (yI_bd ok d0 (by omega)).1
  have hb := BI_ge ok hm0
  have hf := FI_ge ok hy0
  have h1n := mI_is ok (d := day + 1) (n := mI r day)
  have h2n := mI_is ok (d := day + 1) (n := mI r day + 1)
  have hy1 := fun h => yI_is ok (d := day + 1) (y := yI r day) h
  have hy2 := fun h => yI_is ok (d := day + 1) (y := yI r day + 1) h
  have h3b := BI_step ok (mI r day + 1)
  have h4b := FI_step ok (yI r day + 1)
  rw [moonI_eq r day, moonI_eq r (day + 1)]
  generalize mI r day = M at *
  generalize yI r day = Y at *
  obtain ⟨n1, n2, n3⟩ := name_bd ok (y := Y) (m0 := M - FI r Y + 1) (by omega) (by omega)
  have hmn := monN_name (r := r) (y := Y) (m0 := M - FI r Y + 1) (d := day - BI r M + 1) (by omega)
  have hmn2 : FI r Y + (M - FI r Y + 1) - 1 = M := by omega
  rw [hmn2] at hmn
  refine ⟨?_, ?_, hy0, fun h => (n3 h).1⟩
  · have b1 : inB Y 0 4000 = true := inB_iff.2 (by omega)
    have b2 : badL r ⟨Y, (nameM r Y (M - FI r Y + 1)).1, day - BI r M + 1, (nameM r Y (M - FI r Y + 1)).2⟩ = false := by
      unfold badL
      rw [hmn]
      have c1 : inB (nameM r Y (M - FI r Y + 1)).1 1 12 = true := inB_iff.2 ⟨n1, n2⟩
      have c2 : inB (day - BI r M + 1) 1 (BI r (M + 1) - BI r M) = true := inB_iff.2 (by omega)
      simp only [c1, c2, Bool.not_true, Bool.or_false, Bool.false_or]
      cases hk : (nameM r Y (M - FI r Y + 1)).2 with
      | false => rfl
      | true => obtain ⟨q1, q2⟩ := n3 hk; rw [q1, q2]; simp
    unfold ldayR
    simp only [lunB_iff.2 ok, b1, b2, hmn, if_true, Bool.false_eq_true, if_false, show BI r M + (day - BI r M + 1) - 1 = day by omega, inB_iff.2 (show (0 : Int) ≤ day ∧ day ≤ 1000000 by omega)]
  · by_cases c1 : day + 1 < BI r (M + 1)
    · have e1 := h1n (by omega) c1
      have e2 := hy1 (by rw [e1]; exact h2.1) (by rw [e1]; exact h2.2)
      rw [e1, e2]
      exact .inl ⟨by simp only; omega, rfl, rfl, rfl⟩
    · have e1 := h2n (by omega) (by omega)
      by_cases c2 : M + 1 < FI r (Y + 1)
      · have e2 := hy1 (by rw [e1]; omega) (by rw [e1]; exact c2)
        rw [e1, e2]
        unfold nameM
        cases hl : longM r Y with
        | false =>
          simp only [Bool.false_and, Bool.false_eq_true, if_false]
          exact .inr (.inl ⟨by simp only; omega, by simp only; omega, rfl, rfl, by simp only; omega⟩)
        | true =>
          simp only [Bool.true_and, decide_eq_true_eq]
          by_cases g1 : r.l < M - FI r Y + 1
          · rw [if_pos g1, if_pos (by omega)]
            exact .inr (.inl ⟨by simp only; omega, by simp only; omega, rfl, by simp only [beq_eq_false_iff_ne]; omega, by simp only; omega⟩)
          · rw [if_neg g1]
            by_cases g2 : r.l < M + 1 - FI r Y + 1
            · rw [if_pos g2]
              exact .inr (.inr (.inl ⟨by simp only; omega, by simp only; omega, rfl, by simp only [beq_iff_eq]; omega, rfl, by simp only; omega⟩))
            · rw [if_neg g2]
              exact .inr (.inl ⟨by simp only; omega, by simp only; omega, rfl, rfl, by simp only; omega⟩)
      · have e2 := hy2 (by rw [e1]; omega) (by rw [e1]; omega)
        rw [e1, e2]
        have hl5 := ok.l
        have k1 : nameM r (Y + 1) (M + 1 - FI r (Y + 1) + 1) = (1, false) := by
          unfold nameM
          rw [show M + 1 - FI r (Y + 1) + 1 = 1 by omega, if_neg (by simp; omega)]
        have k2 : (nameM r Y (M - FI r Y + 1)).1 = 12 := by
          unfold nameM
          cases hl : longM r Y with
          | false =>
            have hne : FI r (Y + 1) - FI r Y ≠ 13 := fun h => by rw [longM_iff.2 h] at hl; cases hl
            simp; omega
          | true =>
            have := longM_iff.1 hl
            rw [if_pos (by simp; omega)]; simp only; omega
        rw [k1, k2]
        exact .inr (.inr (.inr ⟨by simp only; omega, rfl, rfl, rfl, rfl, by simp only; omega⟩))
end Go.Proofs.Ytfbnllmmoaialaa
namespace Go.Proofs.Ytfbnllmmoaialaa
open Go.RowKit

theorem solarV {e b u day ay am ad : Int} (hs : solB ⟨e, b, u⟩ = true) (h0 : 0 ≤ day) (h1 : day ≤ 1000000) (h : solI ⟨e, b, u⟩ day = ⟨ay, am, ad⟩) (w : World) : Calls Try.prog 41 #[.agg #[.int .i64 e, .int .i64 b, .int .i64 u], .int .i64 day] w fun en w' => en = .returned (.tuple #[.agg #[.int .i64 ay, .int .i64 am, .int .i64 ad], .int .i64 0]) ∧ Below w.heap.size w w' := by
  have h2 := solarF_any e b u day w
  have : solarR ⟨e, b, u⟩ day = (⟨ay, am, ad⟩, 0) := by unfold solarR; rw [hs, inB_iff.2 ⟨h0, h1⟩, h]; rfl
  rw [this] at h2
  exact h2
theorem solarVn {e b u day : Int} (hs : solB ⟨e, b, u⟩ = false) (w : World) : Calls Try.prog 41 #[.agg #[.int .i64 e, .int .i64 b, .int .i64 u], .int .i64 day] w fun en w' => en = .returned (.tuple #[.agg #[.int .i64 0, .int .i64 0, .int .i64 0], .int .i64 2]) ∧ Below w.heap.size w w' := by
  have h2 := solarF_any e b u day w
  have : solarR ⟨e, b, u⟩ day = (⟨0, 0, 0⟩, 2) := by unfold solarR; rw [hs]; rfl
  rw [this] at h2
  exact h2
theorem lunarV {d p f m y s l day ay am ad : Int} {ak : Bool} (hs : lunB ⟨d, p, f, m, y, s, l⟩ = true) (h0 : 0 ≤ day) (h1 : day ≤ 1000000) (h : moonI ⟨d, p, f, m, y, s, l⟩ day = ⟨ay, am, ad, ak⟩) (w : World) : Calls Try.prog 46 #[.agg #[.int .i64 d, .int .i64 p, .int .i64 f, .int .i64 m, .int .i64 y, .int .i64 s, .int .i64 l], .int .i64 day] w fun en w' => en = .returned (.tuple #[.agg #[.int .i64 ay, .int .i64 am, .int .i64 ad, .bool ak], .int .i64 0]) ∧ Below w.heap.size w w' := by
  have h2 := lunarF_any d p f m y s l day w
  have : lunarR ⟨d, p, f, m, y, s, l⟩ day = (⟨ay, am, ad, ak⟩, 0) := by unfold lunarR; rw [hs, inB_iff.2 ⟨h0, h1⟩, h]; rfl
  rw [this] at h2
  exact h2
theorem lunarVn {d p f m y s l day : Int} (hs : lunB ⟨d, p, f, m, y, s, l⟩ = false) (w : World) : Calls Try.prog 46 #[.agg #[.int .i64 d, .int .i64 p, .int .i64 f, .int .i64 m, .int .i64 y, .int .i64 s, .int .i64 l], .int .i64 day] w fun en w' => en = .returned (.tuple #[.agg #[.int .i64 0, .int .i64 0, .int .i64 0, .bool false], .int .i64 2]) ∧ Below w.heap.size w w' := by
  have h2 := lunarF_any d p f m y s l day w
  have : lunarR ⟨d, p, f, m, y, s, l⟩ day = (⟨0, 0, 0, false⟩, 2) := by unfold lunarR; rw [hs]; rfl
  rw [this] at h2
  exact h2
def nextS1 (a b : SDate) : Prop := b.d = a.d + 1 ∧ b.m = a.m ∧ b.y = a.y
def nextS2 (a b : SDate) : Prop := b.d = 1 ∧ b.m = a.m + 1 ∧ b.y = a.y ∧ 28 ≤ a.d
def nextS3 (a b : SDate) : Prop := b.d = 1 ∧ b.m = 1 ∧ b.y = a.y + 1 ∧ a.m = 12 ∧ a.d = 31
end Go.Proofs.Ytfbnllmmoaialaa
namespace Go.Proofs.Ytfbnllmmoaialaa

/-- the first day of a year -/
theorem year_first {r : Sol} (ok : SolOk r) {y : Int} (y0 : 0 ≤ y) (y1 : y ≤ 2000) : dayR r ⟨y, 1, 1⟩ = (begI r y, 0) ∧ 0 ≤ begI r y ∧ begI r y ≤ 732000 := by
  obtain ⟨n, rfl⟩ := Int.eq_ofNat_of_zero_le y0
  have hb := begI_bd ok n
  refine ⟨?_, by omega, by omega⟩
  unfold dayR
  have e1 : sumL ((monL (extraN r n)).take 0) = 0 := rfl
  have b1 : inB (n : Int) 0 4000 = true := inB_iff.2 (by omega)
  have b2 : inB 1 1 12 = true := rfl
  have b3 : inB 1 1 ((monL (extraN r n)).getD 0 0) = true := rfl
  simp only [solB_iff.2 ok, b1, b2, show ((1 : Int) - 1).toNat = 0 from rfl, b3, e1, if_true, show begI r n + 1 - 1 + 0 = begI r n by omega, inB_iff.2 (show (0 : Int) ≤ begI r n ∧ begI r n ≤ 1000000 by omega)]
/-- a year is long -/
def lwLong (r : Sol) (y : Int) : Bool := decide (0 < r.e) && (y % r.e == 0) && (decide (r.b ≤ 0) || (y % r.b != 0) || (decide (0 < r.u) && (y % r.u == 0)))
theorem lwLong_eq {r : Sol} (ok : SolOk r) {y : Int} : lwLong r y = longB r y := by
  obtain ⟨⟨e0, -⟩, ⟨b0, -⟩, u0, -⟩ := ok
  unfold lwLong longB divB
  rw [Bool.eq_iff_iff]
  simp only [Bool.and_eq_true, Bool.or_eq_true, Bool.not_eq_true', decide_eq_true_eq, decide_eq_false_iff_not, beq_iff_eq, bne_iff_ne]
  constructor
  · rintro ⟨⟨h1, h2⟩, h3⟩
    refine ⟨⟨by omega, h2⟩, ?_⟩
    rcases h3 with (h3 | h3) | ⟨h3, h4⟩
    · exact .inl fun ⟨h, _⟩ => by omega
    · exact .inl fun ⟨_, h⟩ => h3 h
    · exact .inr ⟨by omega, h4⟩
  · rintro ⟨⟨h1, h2⟩, h3⟩
    refine ⟨⟨by omega, h2⟩, ?_⟩
    rcases h3 with h3 | ⟨h3, h4⟩
    · by_cases hb : r.b ≤ 0
      · exact .inl (.inl hb)
      · exact .inl (.inr fun h => h3 ⟨by omega, h⟩)
    · exact .inr ⟨by omega, h4⟩
theorem feb29 {r : Sol} (ok : SolOk r) {y : Int} (y0 : 0 ≤ y) (y1 : y ≤ 2000) : dayR r ⟨y, 2, 29⟩ = if longB r y then (begI r y + 59, 0) else (0, 7) := by
  obtain ⟨-, h0, h1⟩ := year_first ok y0 y1
  have hx := extraN_eq ok y0
  unfold dayR
  have b1 : inB y 0 4000 = true := inB_iff.2 (by omega)
  have b2 : inB 2 1 12 = true := rfl
  have e1 : sumL ((monL (extraN r y)).take 1) = 31 := rfl
  have e2 : (monL (extraN r y)).getD 1 0 = 28 + extraN r y := rfl
  simp only [solB_iff.2 ok, b1, b2, show ((2 : Int) - 1).toNat = 1 from rfl, e1, e2, if_true]
  rw [hx]
  split
  · rw [if_pos (inB_iff.2 (by omega)), if_pos (inB_iff.2 (by omega))]
    simp only [Prod.mk.injEq, and_true]; omega
  · rw [if_neg (by rw [Bool.not_eq_true]; exact inB_not.2 (by omega))]
/-! by the moon -/
theorem BI_le {r : Lun} (ok : LunOk r) {n : Int} (h : 0 ≤ n) : BI r n ≤ 31 * n + 1 := by
  obtain ⟨p, d, f, y, m, s, l⟩ := ok
  unfold BI atW
  rw [← Int.lt_add_one_iff, Int.ediv_lt_iff_lt_mul (by omega)]
  have := Int.mul_le_mul_of_nonneg_left d.2 h
  have e : n * (31 * r.p) = 31 * n * r.p := by rw [← Int.mul_assoc, Int.mul_comm n 31]
  have e2 : n * r.d = r.d * n := Int.mul_comm _ _
  have e3 : (31 * n + 1 + 1) * r.p = 31 * n * r.p + 2 * r.p := by rw [show 31 * n + 1 + 1 = 31 * n + 2 by omega, Int.add_mul]
  omega
theorem FI_le {r : Lun} (ok : LunOk r) {n : Int} (h : 0 ≤ n) : FI r n ≤ 13 * n + 1 := by
  obtain ⟨p, d, f, y, m, s, l⟩ := ok
  unfold FI atW
  rw [← Int.lt_add_one_iff, Int.ediv_lt_iff_lt_mul (by omega)]
  have := Int.mul_le_mul_of_nonneg_left m.2 h
  have e : n * (13 * r.y) = 13 * n * r.y := by rw [← Int.mul_assoc, Int.mul_comm n 13]
  have e2 : n * r.m = r.m * n := Int.mul_comm _ _
  have e3 : (13 * n + 1 + 1) * r.y = 13 * n * r.y + 2 * r.y := by rw [show 13 * n + 1 + 1 = 13 * n + 2 by omega, Int.add_mul]
  omega
/-- how many months of the year begin before month m: the repeated one counts -/
def befM (r : Lun) (y m : Int) : Int := m - 1 + if longM r y && decide (r.l < m) then 1 else 0
/-- the first days of months -/
theorem month_first {r : Lun} (ok : LunOk r) {y m : Int} (y0 : 0 ≤ y) (y1 : y ≤ 2000) (m0 : 1 ≤ m) (m1 : m ≤ 12) : ldayR r ⟨y, m, 1, false⟩ = (BI r (FI r y + befM r y m), 0) ∧ 0 ≤ BI r (FI r y + befM r y m) ∧ BI r (FI r y + befM r y m) ≤ 1000000 := by
  have hf := FI_ge ok y0
  have hf2 := FI_le ok y0
  have hb : 0 ≤ befM r y m ∧ befM r y m ≤ 13 := by unfold befM; split <;> omega
  have hB := BI_ge ok (show 0 ≤ FI r y + befM r y m by omega)
  have hB2 := BI_le ok (show 0 ≤ FI r y + befM r y m by omega)
  have hs := BI_step ok (FI r y + befM r y m)
  have hN : monN r ⟨y, m, 1, false⟩ = FI r y + befM r y m := by
    unfold monN befM
    simp only [Bool.or_false]
    split <;> omega
  refine ⟨?_, by omega, by omega⟩
  have b1 : inB y 0 4000 = true := inB_iff.2 (by omega)
  have b2 : badL r ⟨y, m, 1, false⟩ = false := by
    unfold badL
    rw [hN]
    simp only [inB_iff.2 (show (1 : Int) ≤ m ∧ m ≤ 12 by omega), inB_iff.2 (show (1 : Int) ≤ 1 ∧ 1 ≤ BI r (FI r y + befM r y m + 1) - BI r (FI r y + befM r y m) by omega)]
    rfl
  unfold ldayR
  simp only [lunB_iff.2 ok, b1, b2, hN, if_true, Bool.false_eq_true, if_false, show BI r (FI r y + befM r y m) + 1 - 1 = BI r (FI r y + befM r y m) by omega, inB_iff.2 (show (0 : Int) ≤ BI r (FI r y + befM r y m) ∧ BI r (FI r y + befM r y m) ≤ 1000000 by omega)]
/-- of the repeated month -/
theorem month_leap {r : Lun} (ok : LunOk r) {y m : Int} (y0 : 0 ≤ y) (y1 : y ≤ 2000) (m0 : 1 ≤ m) (m1 : m ≤ 12) : ldayR r ⟨y, m, 1, true⟩ = if longM r y && (m == r.l) then (BI r (FI r y + m), 0) else (0, 7) := by
  have hf := FI_ge ok y0
  have hf2 := FI_le ok y0
  have b1 : inB y 0 4000 = true := inB_iff.2 (by omega)
  have hB := BI_ge ok (show 0 ≤ FI r y + m by omega)
  have hB2 := BI_le ok (show 0 ≤ FI r y + m by omega)
  have hs := BI_step ok (FI r y + m)
  cases hl : longM r y with
  | false =>
    have b2 : badL r ⟨y, m, 1, true⟩ = true := by unfold badL; simp [hl]
    unfold ldayR
    simp only [lunB_iff.2 ok, b1, b2, if_true]
    rfl
  | true =>
    by_cases he : m = r.l
    · have hN : monN r ⟨y, m, 1, true⟩ = FI r y + m := by unfold monN; simp [hl]
      have b2 : badL r ⟨y, m, 1, true⟩ = false := by
        unfold badL
        rw [hN]
        simp only [hl, inB_iff.2 (show (1 : Int) ≤ m ∧ m ≤ 12 by omega), inB_iff.2 (show (1 : Int) ≤ 1 ∧ 1 ≤ BI r (FI r y + m + 1) - BI r (FI r y + m) by omega)]
        simp [he]
      unfold ldayR
      simp only [lunB_iff.2 ok, b1, b2, hN, if_true, Bool.false_eq_true, if_false, show BI r (FI r y + m) + 1 - 1 = BI r (FI r y + m) by omega, inB_iff.2 (show (0 : Int) ≤ BI r (FI r y + m) ∧ BI r (FI r y + m) ≤ 1000000 by omega)]
      simp [he]
    · have b2 : badL r ⟨y, m, 1, true⟩ = true := by unfold badL; simp [hl, he]
      unfold ldayR
      simp only [lunB_iff.2 ok, b1, b2, if_true]
      simp [he]
theorem befM_one {r : Lun} (ok : LunOk r) (y : Int) : befM r y 1 = 0 := by
  have := ok.l
  unfold befM
  rw [if_neg (by simp; omega)]
  rfl
theorem befM_succ {r : Lun} {y m : Int} : befM r y (m + 1) = befM r y m + 1 + if longM r y && (m == r.l) then 1 else 0 := by
  unfold befM
  cases hl : longM r y with
  | false => simp
  | true =>
    simp only [Bool.true_and, decide_eq_true_eq, beq_iff_eq]
    split <;> split <;> split <;> omega
theorem befM_all {r : Lun} (ok : LunOk r) (y : Int) : befM r y 13 = FI r (y + 1) - FI r y := by
  have h := FI_step ok y
  have := ok.l
  unfold befM
  cases hl : longM r y with
  | false =>
    have hne : FI r (y + 1) - FI r y ≠ 13 := fun h => by rw [longM_iff.2 h] at hl; cases hl
    simp; omega
  | true =>
    have := longM_iff.1 hl
    rw [if_pos (by simp; omega)]; omega
/-- the first day of the month that began last, behind c months of a year -/
def lastC (r : Lun) (y c : Int) : Int := BI r (FI r y + if c = 0 then 0 else c - 1)
theorem BI_mono {r : Lun} (ok : LunOk r) {a : Int} : ∀ n : Nat, BI r a ≤ BI r (a + n)
  | 0 => by simp
  | n + 1 => by
    have h1 := BI_mono ok (a := a) n
    have h2 := BI_step ok (a + n)
    rw [show a + ((n + 1 : Nat) : Int) = a + n + 1 by omega]; omega
theorem last_chk {r : Lun} (ok : LunOk r) {y c : Int} (c0 : 0 ≤ c) (c1 : c + 1 ≤ FI r (y + 1) - FI r y) : lastC r y c ≤ BI r (FI r y + c) ∧ BI r (FI r y + c) ≤ BI r (FI r (y + 1)) ∧ (0 < c → 27 ≤ BI r (FI r y + c) - lastC r y c ∧ BI r (FI r y + c) - lastC r y c ≤ 31) ∧ lastC r y (c + 1) = BI r (FI r y + c) := by
  have h2 : BI r (FI r y + c) ≤ BI r (FI r (y + 1)) := by
    have := BI_mono ok (a := FI r y + c) (FI r (y + 1) - FI r y - c).toNat
    rwa [show FI r y + c + ((FI r (y + 1) - FI r y - c).toNat : Int) = FI r (y + 1) by omega] at this
  have h4 : lastC r y (c + 1) = BI r (FI r y + c) := by unfold lastC; rw [if_neg (by omega)]; congr 1; omega
  by_cases h : c = 0
  · subst h
    exact ⟨by unfold lastC; rw [if_pos rfl]; exact Int.le_refl _, h2, fun h => by omega, h4⟩
  · have hs := BI_step ok (FI r y + (c - 1))
    rw [show FI r y + (c - 1) + 1 = FI r y + c by omega] at hs
    have hl : lastC r y c = BI r (FI r y + (c - 1)) := by unfold lastC; rw [if_neg h]
    rw [hl]
    exact ⟨by omega, h2, fun _ => by omega, h4⟩
theorem last_end {r : Lun} (ok : LunOk r) {y : Int} : 27 ≤ BI r (FI r (y + 1)) - lastC r y (FI r (y + 1) - FI r y) ∧ BI r (FI r (y + 1)) - lastC r y (FI r (y + 1) - FI r y) ≤ 31 := by
  have h := FI_step ok y
  have hs := BI_step ok (FI r (y + 1) - 1)
  rw [show FI r (y + 1) - 1 + 1 = FI r (y + 1) by omega] at hs
  have hl : lastC r y (FI r (y + 1) - FI r y) = BI r (FI r (y + 1) - 1) := by unfold lastC; rw [if_neg (by omega)]; congr 1; omega
  rw [hl]; omega
end Go.Proofs.Ytfbnllmmoaialaa
namespace Go.Proofs.Ytfbnllmmoaialaa

theorem yr_room {r : Lun} (ok : LunOk r) {y m : Int} (m0 : 1 ≤ m) (m1 : m ≤ 12) : 0 ≤ befM r y m ∧ befM r y m ≤ 12 ∧ befM r y (m + 1) ≤ FI r (y + 1) - FI r y := by
  have h := befM_all ok y
  have hl := ok.l
  rw [← h]
  unfold befM
  cases longM r y with
  | false => simp; omega
  | true =>
    simp only [Bool.true_and, decide_eq_true_eq]
    split <;> split <;> split <;> omega
/-- one round of the months' loop, in numbers -/
structure YrRound (r : Lun) (y m B c X Y c' X' : Int) : Prop where
  hc : c = befM r y m
  hX : X = lastC r y c
  hc' : c' = befM r y (m + 1)
  hX' : X' = lastC r y c'
  first : ldayR r ⟨y, m, 1, false⟩ = (Y, 0)
  c0 : 0 ≤ c ∧ c ≤ 12
  xy : X ≤ Y ∧ Y ≤ B
  gap : 0 < c → 27 ≤ Y - X ∧ Y - X ≤ 31
  bd : 0 ≤ X ∧ Y ≤ 1000000
  rest : (m = r.l ∧ ldayR r ⟨y, m, 1, true⟩ = (X', 0) ∧ c' = c + 2 ∧ Y ≤ X' ∧ X' ≤ B ∧ 27 ≤ X' - Y ∧ X' - Y ≤ 31) ∨ (ldayR r ⟨y, m, 1, true⟩ = (0, 7) ∧ c' = c + 1 ∧ X' = Y)
theorem yr_round {r : Lun} (ok : LunOk r) {y m : Int} (y0 : 0 ≤ y) (y1 : y ≤ 2000) (m0 : 1 ≤ m) (m1 : m ≤ 12) : ∃ c X Y c' X', YrRound r y m (BI r (FI r (y + 1))) c X Y c' X' := by
  obtain ⟨a1, a2, a3⟩ := yr_room ok (y := y) m0 m1
  obtain ⟨f1, f2, f3⟩ := month_first ok y0 y1 m0 m1
  have hs := befM_succ (r := r) (y := y) (m := m)
  obtain ⟨c, hc⟩ : ∃ c, c = befM r y m := ⟨_, rfl⟩
  rw [← hc] at a1 a2 f1 f2 f3 hs
  have hf := FI_ge ok y0
  obtain ⟨g1, g2, g3, g4⟩ := last_chk ok (y := y) (c := c) a1 (by rw [hs] at a3; split at a3 <;> omega)
  have hl0 : 0 ≤ lastC r y c := by
    unfold lastC
    split
    · have := BI_ge ok (show 0 ≤ FI r y + 0 by omega); omega
    · have := BI_ge ok (show 0 ≤ FI r y + (c - 1) by omega); omega
  have ml := month_leap ok y0 y1 m0 m1
  cases hv : (longM r y && (m == r.l)) with
  | false =>
    rw [hv] at ml hs
    simp at ml hs
    exact ⟨c, lastC r y c, _, c + 1, _, ⟨hc, rfl, hs.symm, g4.symm, f1, ⟨a1, a2⟩, ⟨g1, g2⟩, g3, ⟨hl0, f3⟩, Or.inr ⟨ml, rfl, rfl⟩⟩⟩
  | true =>
    rw [hv] at ml hs
    simp at ml hs
    have hml : m = r.l := by simp at hv; exact hv.2
    have hcm : c = m - 1 := by rw [hc]; unfold befM; rw [if_neg (by simp; omega)]; omega
    obtain ⟨k1, k2, k3, k4⟩ := last_chk ok (y := y) (c := c + 1) (by omega) (by omega)
    rw [g4] at k1 k3
    rw [show FI r y + m = FI r y + (c + 1) by omega, ← k4] at ml
    rw [← k4] at k1 k2 k3
    exact ⟨c, lastC r y c, _, c + 1 + 1, _, ⟨hc, rfl, hs.symm, rfl, f1, ⟨a1, a2⟩, ⟨g1, g2⟩, g3, ⟨hl0, f3⟩, Or.inl ⟨hml, ml, by omega, k1, k2, (k3 (by omega)).1, (k3 (by omega)).2⟩⟩⟩
theorem yr_end {r : Lun} (ok : LunOk r) {y : Int} : (befM r y 13 = 12 ∨ befM r y 13 = 13) ∧ 27 ≤ BI r (FI r (y + 1)) - lastC r y (befM r y 13) ∧ BI r (FI r (y + 1)) - lastC r y (befM r y 13) ≤ 31 := by
  refine ⟨?_, by rw [befM_all ok]; exact last_end ok⟩
  have := ok.l
  unfold befM
  split <;> omega
theorem yr_start {r : Lun} (ok : LunOk r) {y : Int} (y0 : 0 ≤ y) (y1 : y ≤ 2000) : ldayR r ⟨y, 1, 1, false⟩ = (lastC r y 0, 0) ∧ befM r y 1 = 0 := by
  have h := (month_first ok y0 y1 (Int.le_refl 1) (by omega)).1
  rw [befM_one ok] at h
  refine ⟨?_, befM_one ok y⟩
  rw [h]
  unfold lastC
  simp
theorem yr_next {r : Lun} (ok : LunOk r) {y : Int} (y0 : 0 ≤ y) (y1 : y ≤ 2000) : ldayR r ⟨y, 1, 1, false⟩ = (BI r (FI r y), 0) ∧ 0 ≤ BI r (FI r y) ∧ BI r (FI r y) ≤ 1000000 := by
  have h := month_first ok y0 y1 (Int.le_refl 1) (by omega)
  rw [befM_one ok] at h
  simpa using h
end Go.Proofs.Ytfbnllmmoaialaa
namespace Go.Proofs.Ytfbnllmmoaialaa
open Go.RowKit

theorem solarDayV {e b u y m d n g : Int} (hd : -1000000000000000000 ≤ d ∧ d ≤ 1000000000000000000) (h : dayR ⟨e, b, u⟩ ⟨y, m, d⟩ = (n, g)) (w : World) : Calls Try.prog 42 #[.agg #[.int .i64 e, .int .i64 b, .int .i64 u], .agg #[.int .i64 y, .int .i64 m, .int .i64 d]] w fun en w' => en = .returned (.tuple #[.int .i64 n, .int .i64 g]) ∧ Below w.heap.size w w' := by
  have h2 := solarDay_any e b u y m d w hd
  rw [h] at h2
  exact h2
theorem lunarDayV {d p f m y s l y0 m0 d0 n g : Int} {k0 : Bool} (h : ldayR ⟨d, p, f, m, y, s, l⟩ ⟨y0, m0, d0, k0⟩ = (n, g)) (w : World) : Calls Try.prog 47 #[.agg #[.int .i64 d, .int .i64 p, .int .i64 f, .int .i64 m, .int .i64 y, .int .i64 s, .int .i64 l], .agg #[.int .i64 y0, .int .i64 m0, .int .i64 d0, .bool k0]] w fun en w' => en = .returned (.tuple #[.int .i64 n, .int .i64 g]) ∧ Below w.heap.size w w' := by
  have h2 := lunarDay_any d p f m y s l y0 m0 d0 k0 w
  rw [h] at h2
  exact h2
/-- what holds at the head of the months' loop -/
def YrOut (r : Lun) (yr : Int) (w : World) (q : Nat) (vals : Array Value) (t : Nat) (s15 s16 s17 : Value) (wr : World) : Prop := ∃ mo : Int, 1 ≤ mo ∧ mo ≤ 13 ∧ s17 = .int .i64 mo ∧ s15 = .int .i64 (befM r yr mo) ∧ s16 = .int .i64 (lastC r yr (befM r yr mo)) ∧ Below w.heap.size w wr ∧ Blk wr q vals t
/-- what holds at the head of the inner loop -/
def YrIn (c X Y c' X' : Int) (w : World) (q : Nat) (vals : Array Value) (t : Nat) (s15 s16 s18 : Value) (wr : World) : Prop := ((s18 = .int .i64 0 ∧ s15 = .int .i64 c ∧ s16 = .int .i64 X) ∨ (s18 = .int .i64 1 ∧ s15 = .int .i64 (c + 1) ∧ s16 = .int .i64 Y) ∨ (s18 = .int .i64 2 ∧ s15 = .int .i64 c' ∧ s16 = .int .i64 X')) ∧ Below w.heap.size w wr ∧ Blk wr q vals t
end Go.Proofs.Ytfbnllmmoaialaa
namespace Go.Proofs.Ytfbnllmmoaialaa
open Go.RowKit

set_option maxRecDepth 100000 in
set_option maxHeartbeats 8000000 in
theorem lwyears_n (e b u d p f m y s l bY : Int) (w : World) (h0 : 0 ≤ bY) (h1 : bY < 65536) (hs : solB ⟨e, b, u⟩ = false) :
    Calls Try.prog 14 #[.agg #[.int .i64 e, .int .i64 b, .int .i64 u], .agg #[.int .i64 d, .int .i64 p, .int .i64 f, .int .i64 m, .int .i64 y, .int .i64 s, .int .i64 l], .int .u16 bY] w fun en w' => en = .returned (.bool true) ∧ Below w.heap.size w w' := by
  obtain ⟨yr, hyr⟩ : ∃ d, d = bY % 2000 := ⟨_, rfl⟩
  have d0 : 0 ≤ yr := by omega
  have d1 : yr ≤ 1999 := by omega
  have w1d : IntKind.i64.wrap (yr + 1) = yr + 1 := IntWalk.i64_in _ ⟨by omega, by omega⟩
  have HD := Lib.hid hyr
  have hyr0 := HD
  clear hyr
  have HS1 := Lib.hid (fun W => solarDayV (n := 0) (g := 2) (y := yr) (m := 1) (d := 1) (by omega) (by simp [dayR, hs] : dayR ⟨e, b, u⟩ _ = _) W)
  have HS2 := Lib.hid (fun W => solarDayV (n := 0) (g := 2) (y := yr + 1) (m := 1) (d := 1) (by omega) (by simp [dayR, hs] : dayR ⟨e, b, u⟩ _ = _) W)
  clear hs
  go_enter Try.func14, Try.ntmps14
  go_upto_region 2 with fail
  rw [← HD.out]
  obtain ⟨q3, hq3⟩ : ∃ n, n = w.heap.size := ⟨_, rfl⟩
  rw [← hq3]
  refine gen_w (fun W => (Below w.heap.size w W ∧ Blk W q3 #[.int .i64 e, .int .i64 b, .int .i64 u] 24 ∧ Blk W (q3 + 1) #[.int .i64 d, .int .i64 p, .int .i64 f, .int .i64 m, .int .i64 y, .int .i64 s, .int .i64 l] 26)) ⟨by (repeat (first | exact Below.refl _ _ | assumption | (refine Below.alloc ?_ (by first | omega | (simp; omega) | (simp; done)) _) | (refine Below.setCell ?_ (by first | omega | (simp; omega) | (simp; done)) _) | (refine Below.drew ?_) | (refine belowN ?_ _) | (refine Below.trans ?_ (Below.mono ‹Below _ _ _› (by first | omega | (simp; omega) | (simp; done)))))), (Blk.at_ hq3).alloc _, Blk.at_ (by simp [hq3])⟩ ?_
  clear hq3
  rintro V ⟨hw, g3, g4⟩
  (have c0 := g3.cell 0; have c1 := g3.cell 1; have c2 := g3.cell 2; simp at c0 c1 c2)
  go_upto_region 11 with (first | (go_at_call 42; (with_reducible refine (HS1.out _).mono ?_); rintro _ W1 ⟨rfl, hb1⟩; have hw := bl2 hw hb1; have g3 := g3.below hb1 g3.lt; have g4 := g4.below hb1 g4.lt; (have c0 := g3.cell 0; have c1 := g3.cell 1; have c2 := g3.cell 2; simp at c0 c1 c2)) | (go_at_call 42; (with_reducible refine (HS2.out _).mono ?_); rintro _ W2 ⟨rfl, hb2⟩; have hw := bl2 hw hb2; have g3 := g3.below hb2 g3.lt; have g4 := g4.below hb2 g4.lt; (have c0 := g3.cell 0; have c1 := g3.cell 1; have c2 := g3.cell 2; simp at c0 c1 c2)))
  clear HS1 HS2
  cases hl : lunB ⟨d, p, f, m, y, s, l⟩ with
  | false =>
    have HM1 := Lib.hid (fun W => lunarDayV (n := 0) (g := 2) (y0 := yr) (m0 := 1) (d0 := 1) (k0 := false) (by simp [ldayR, hl] : ldayR ⟨d, p, f, m, y, s, l⟩ _ = _) W)
    have HM2 := Lib.hid (fun W => lunarDayV (n := 0) (g := 2) (y0 := yr + 1) (m0 := 1) (d0 := 1) (k0 := false) (by simp [ldayR, hl] : ldayR ⟨d, p, f, m, y, s, l⟩ _ = _) W)
    clear hl
    (have c0 := g4.cell 0; have c1 := g4.cell 1; have c2 := g4.cell 2; have c3 := g4.cell 3; have c4 := g4.cell 4; have c5 := g4.cell 5; have c6 := g4.cell 6; simp at c0 c1 c2 c3 c4 c5 c6)
    go_upto_region 14 with (first | (go_at_call 47; (with_reducible refine (HM1.out _).mono ?_); rintro _ W4 ⟨rfl, hb4⟩; have hw := bl2 hw hb4; have g4 := g4.below hb4 g4.lt; (have c0 := g4.cell 0; have c1 := g4.cell 1; have c2 := g4.cell 2; have c3 := g4.cell 3; have c4 := g4.cell 4; have c5 := g4.cell 5; have c6 := g4.cell 6; simp at c0 c1 c2 c3 c4 c5 c6)) | (go_at_call 47; (with_reducible refine (HM2.out _).mono ?_); rintro _ W4 ⟨rfl, hb4⟩; have hw := bl2 hw hb4; have g4 := g4.below hb4 g4.lt; (have c0 := g4.cell 0; have c1 := g4.cell 1; have c2 := g4.cell 2; have c3 := g4.cell 3; have c4 := g4.cell 4; have c5 := g4.cell 5; have c6 := g4.cell 6; simp at c0 c1 c2 c3 c4 c5 c6)))
    go_wp2_with (go_at_call 17; refine (known_any _).mono ?_; rintro _ WK ⟨rfl, hbK⟩; have hw := bl2 hw hbK)
    refine bodyPost_ret (v := .bool true) (by simp [results, Try.results14, go_sem]) rfl ?_
    exact ⟨rfl, hw⟩
  | true =>
    have lok := lunB_iff.1 hl
    obtain ⟨a1, a2⟩ := yr_start lok d0 (by omega : yr ≤ 2000)
    obtain ⟨b1, b2, b3⟩ := yr_next lok (show 0 ≤ yr + 1 by omega) (by omega)
    have YE := Lib.hid (yr_end lok (y := yr))
    have YR := Lib.hid (fun mo m0 m1 => yr_round lok (y := yr) (m := mo) d0 (by omega) m0 m1)
    obtain ⟨B, hB⟩ : ∃ x, x = BI ⟨d, p, f, m, y, s, l⟩ (FI ⟨d, p, f, m, y, s, l⟩ (yr + 1)) := ⟨_, rfl⟩
    rw [← hB] at b1 b2 b3 YE YR
    obtain ⟨A, hA⟩ : ∃ x, x = lastC ⟨d, p, f, m, y, s, l⟩ yr 0 := ⟨_, rfl⟩
    rw [← hA] at a1
    have HA : Hid (A = lastC ⟨d, p, f, m, y, s, l⟩ yr (befM ⟨d, p, f, m, y, s, l⟩ yr 1)) := (by rw [a2, hA] : A = lastC _ yr _)
    have HZ := Lib.hid a2.symm
    have HM1 := Lib.hid (fun W => lunarDayV a1 W)
    have HM2 := Lib.hid (fun W => lunarDayV b1 W)
    clear hl lok hA hB a1 a2 b1
    (have c0 := g4.cell 0; have c1 := g4.cell 1; have c2 := g4.cell 2; have c3 := g4.cell 3; have c4 := g4.cell 4; have c5 := g4.cell 5; have c6 := g4.cell 6; simp at c0 c1 c2 c3 c4 c5 c6)
    go_upto_region 19 with (first | (go_at_call 47; (with_reducible refine (HM1.out _).mono ?_); rintro _ W4 ⟨rfl, hb4⟩; have hw := bl2 hw hb4; have g4 := g4.below hb4 g4.lt; (have c0 := g4.cell 0; have c1 := g4.cell 1; have c2 := g4.cell 2; have c3 := g4.cell 3; have c4 := g4.cell 4; have c5 := g4.cell 5; have c6 := g4.cell 6; simp at c0 c1 c2 c3 c4 c5 c6)) | (go_at_call 47; (with_reducible refine (HM2.out _).mono ?_); rintro _ W4 ⟨rfl, hb4⟩; have hw := bl2 hw hb4; have g4 := g4.below hb4 g4.lt; (have c0 := g4.cell 0; have c1 := g4.cell 1; have c2 := g4.cell 2; have c3 := g4.cell 3; have c4 := g4.cell 4; have c5 := g4.cell 5; have c6 := g4.cell 6; simp at c0 c1 c2 c3 c4 c5 c6)))
    clear HM1 HM2
    go_loopw [15, 16, 17, 18, 19, 20] (fun s15 s16 s17 _ _ _ wr => YrOut ⟨d, p, f, m, y, s, l⟩ yr w (q3 + 1) #[.int .i64 d, .int .i64 p, .int .i64 f, .int .i64 m, .int .i64 y, .int .i64 s, .int .i64 l] 26 s15 s16 s17 wr) (fun _ _ s17 _ _ _ _ => (13 - intOf s17).toNat)
    case atStart => exact ⟨1, by omega, by omega, rfl, by rw [← HZ.out], by rw [← HA.out], hw, g4⟩
    case round =>
      unfold YrOut at hrel
      obtain ⟨mo, m0, m1, rfl, rfl, rfl, hw, g4⟩ := hrel
      clear HA HZ
      (have c0 := g4.cell 0; have c1 := g4.cell 1; have c2 := g4.cell 2; have c3 := g4.cell 3; have c4 := g4.cell 4; have c5 := g4.cell 5; have c6 := g4.cell 6; simp at c0 c1 c2 c3 c4 c5 c6)
      by_cases hmo : mo = 13
      · subst hmo
        obtain ⟨ye1, ye2, ye3⟩ := YE.out
        obtain ⟨c, hc⟩ : ∃ x, x = befM ⟨d, p, f, m, y, s, l⟩ yr 13 := ⟨_, rfl⟩
        rw [← hc] at ye1 ye2 ye3 ⊢
        obtain ⟨X, hX⟩ : ∃ x, x = lastC ⟨d, p, f, m, y, s, l⟩ yr c := ⟨_, rfl⟩
        rw [← hX] at ye2 ye3 ⊢
        clear YE YR hX hc
        have wx : IntKind.i64.wrap (B - X) = B - X := IntWalk.i64_in _ ⟨by omega, by omega⟩
        rcases ye1 with rfl | rfl
        · go_wp2_with (go_at_call 17; refine (known_any _).mono ?_; rintro _ WK ⟨rfl, hbK⟩; have hw := bl2 hw hbK)
          refine bodyPost_ret (v := .bool true) (by simp [results, Try.results14, go_sem]) rfl ?_
          exact ⟨rfl, hw⟩
        · go_wp2_with (go_at_call 17; refine (known_any _).mono ?_; rintro _ WK ⟨rfl, hbK⟩; have hw := bl2 hw hbK)
          refine bodyPost_ret (v := .bool true) (by simp [results, Try.results14, go_sem]) rfl ?_
          exact ⟨rfl, hw⟩
      · have n12 : mo ≤ 12 := by omega
        obtain ⟨c, X, Y, c', X', R⟩ := YR.out mo m0 n12
        rw [← R.hc, ← R.hX]
        have r0 := R.c0; have r1 := R.xy; have r2 := R.gap; have r3 := R.bd
        have n1 : ¬ Y < X := by omega
        have n2 : ¬ B < Y := by omega
        have wc : IntKind.i64.wrap (c + 1) = c + 1 := IntWalk.i64_in _ ⟨by omega, by omega⟩
        have wcc : IntKind.i64.wrap (c + 1 + 1) = c + 1 + 1 := IntWalk.i64_in _ ⟨by omega, by omega⟩
        have wm : IntKind.i64.wrap (mo + 1) = mo + 1 := IntWalk.i64_in _ ⟨by omega, by omega⟩
        have wx : IntKind.i64.wrap (Y - X) = Y - X := IntWalk.i64_in _ ⟨by omega, by omega⟩
        have HC' := Lib.hid R.hc'; have HX' := Lib.hid R.hX'
        have HR1 := Lib.hid (fun W => lunarDayV R.first W)
        have HRest := Lib.hid R.rest
        clear R YE YR
        go_upto_region 22 with fail
        go_loopw [15, 16, 18, 19, 20] (fun s15 s16 s18 _ _ wr => YrIn c X Y c' X' w (q3 + 1) #[.int .i64 d, .int .i64 p, .int .i64 f, .int .i64 m, .int .i64 y, .int .i64 s, .int .i64 l] 26 s15 s16 s18 wr) (fun _ _ s18 _ _ _ => (2 - intOf s18).toNat)
        case atStart => exact ⟨Or.inl ⟨rfl, rfl, rfl⟩, hw, g4⟩
        case round =>
          unfold YrIn at hrel
          obtain ⟨hrel, hw, g4⟩ := hrel
          (have c0 := g4.cell 0; have c1 := g4.cell 1; have c2 := g4.cell 2; have c3 := g4.cell 3; have c4 := g4.cell 4; have c5 := g4.cell 5; have c6 := g4.cell 6; simp at c0 c1 c2 c3 c4 c5 c6)
          rcases hrel with ⟨rfl, rfl, rfl⟩ | ⟨rfl, rfl, rfl⟩ | ⟨rfl, rfl, rfl⟩
          · by_cases hc : 0 < c
            · have n3 : ¬ (Y - X < 27) := by omega
              have n4 : ¬ (31 < Y - X) := by omega
              go_wp2_with (go_at_call 47; (with_reducible refine (HR1.out _).mono ?_); rintro _ W4 ⟨rfl, hb4⟩; have hw := bl2 hw hb4; have g4 := g4.below hb4 g4.lt; (have c0 := g4.cell 0; have c1 := g4.cell 1; have c2 := g4.cell 2; have c3 := g4.cell 3; have c4 := g4.cell 4; have c5 := g4.cell 5; have c6 := g4.cell 6; simp at c0 c1 c2 c3 c4 c5 c6))
              go_roundw
              case rel => exact ⟨Or.inr (Or.inl ⟨rfl, rfl, rfl⟩), hw, g4⟩
              case measure => simp [intOf]
            · go_wp2_with (go_at_call 47; (with_reducible refine (HR1.out _).mono ?_); rintro _ W4 ⟨rfl, hb4⟩; have hw := bl2 hw hb4; have g4 := g4.below hb4 g4.lt; (have c0 := g4.cell 0; have c1 := g4.cell 1; have c2 := g4.cell 2; have c3 := g4.cell 3; have c4 := g4.cell 4; have c5 := g4.cell 5; have c6 := g4.cell 6; simp at c0 c1 c2 c3 c4 c5 c6))
              go_roundw
              case rel => exact ⟨Or.inr (Or.inl ⟨rfl, rfl, rfl⟩), hw, g4⟩
              case measure => simp [intOf]
          · rcases HRest.out with ⟨ml, h1, h2, h3, h4, h5, h6⟩ | ⟨h1, h2, h3⟩
            · have HR1 := Lib.hid (fun W => lunarDayV h1 W)
              have e1 : (mo != l) = false := by simpa using ml
              have n3 : ¬ (X' - Y < 27) := by omega
              have n4 : ¬ (31 < X' - Y) := by omega
              have n5 : ¬ X' < Y := by omega
              have n6 : ¬ B < X' := by omega
              have n7 : 0 < c + 1 := by omega
              have wz : IntKind.i64.wrap (X' - Y) = X' - Y := IntWalk.i64_in _ ⟨by omega, by omega⟩
              clear h1 HRest ml
              go_wp2_with (go_at_call 47; (with_reducible refine (HR1.out _).mono ?_); rintro _ W4 ⟨rfl, hb4⟩; have hw := bl2 hw hb4; have g4 := g4.below hb4 g4.lt; (have c0 := g4.cell 0; have c1 := g4.cell 1; have c2 := g4.cell 2; have c3 := g4.cell 3; have c4 := g4.cell 4; have c5 := g4.cell 5; have c6 := g4.cell 6; simp at c0 c1 c2 c3 c4 c5 c6))
              go_roundw
              case rel => exact ⟨Or.inr (Or.inr ⟨rfl, by rw [h2, show c + 1 + 1 = c + 2 by omega], rfl⟩), hw, g4⟩
              case measure => simp [intOf]
            · have HR1 := Lib.hid (fun W => lunarDayV h1 W)
              clear h1 HRest
              go_wp2_with (go_at_call 47; (with_reducible refine (HR1.out _).mono ?_); rintro _ W4 ⟨rfl, hb4⟩; have hw := bl2 hw hb4; have g4 := g4.below hb4 g4.lt; (have c0 := g4.cell 0; have c1 := g4.cell 1; have c2 := g4.cell 2; have c3 := g4.cell 3; have c4 := g4.cell 4; have c5 := g4.cell 5; have c6 := g4.cell 6; simp at c0 c1 c2 c3 c4 c5 c6))
              go_roundw
              case rel => exact ⟨Or.inr (Or.inr ⟨rfl, by rw [h2], by rw [h3]⟩), hw, g4⟩
              case measure => simp [intOf]
          · go_wp2_with fail
            go_roundw
            case rel => exact ⟨mo + 1, by omega, by omega, rfl, by rw [HC'.out], by rw [HX'.out, HC'.out], hw, g4⟩
            case measure => simp [intOf]; omega
end Go.Proofs.Ytfbnllmmoaialaa

/- habit, plain: HabitAll. -/
import Derived.Test.YtiikkcifdhcejaaPj
import Derived.Test.YtiikkcifdhcejaaZ15Wk
import Derived.Test.YtiikkcifdhcejaaWt
import Derived.Test.YtiikkcifdhcejaaZ28Fk
import Derived.Test.YtiikkcifdhcejaaZ02Go
namespace Go.Proofs.Ytiikkcifdhcejaa

theorem wt_le48 {m : HMd} (h : ModOk m) {b : Int} (hb : ∀ r ∈ m.rows, totI r ≤ b) {l : List Int} (hl : regB m.outs l) {i : Nat} (hi : i < l.length) : (wtI m l i).2 ≤ b := by
  have hx := hl.at_ hi
  unfold wtI
  simp only
  by_cases k2 : m.kind = 2 ∧ 0 < i
  · rw [if_pos k2]
    have hp := hl.at_ (i := i - 1) (by omega)
    exact hb _ (h.next_mem k2.1 hp.1 hp.2)
  · rw [if_neg k2]
    have := hb _ h.row0_mem
    by_cases k3 : m.kind = 3
    · rw [if_pos k3]
      simp only
      omega
    · rw [if_neg k3]; exact this
theorem run_go {m : HMd} (h : ModOk m) : ∀ (r : List Int) (s : HSt), StOk m s → regB m.outs r → GoOk (runS m s r)
  | [], _, _, _ => trivial
  | x :: r, s, hs, hr => by
    have hx := hr x (by simp)
    have ih := fun s' (h' : StOk m s') => run_go h r s' h' fun y hy => hr y (by simp [hy])
    obtain ⟨S, h1, h2, _⟩ := hs.cast h
    obtain ⟨e1, e2, e3⟩ := h2 x.toNat (by omega)
    rw [Int.toNat_of_nonneg hx.1] at e1 e2 e3
    have hrow : ∀ q ∈ m.rows, q.getD x.toNat 0 ≤ totI q ∧ totI q ≤ 32000 := fun q hq => by
      obtain ⟨a1, a2, a3⟩ := h.row q hq
      have a4 := totI_le (b := 1000) (r := q) fun w hw => (a2 w hw).2
      have := h.n32
      rw [a1] at a4
      exact ⟨totI_ge fun w hw => (a2 w hw).1, by omega⟩
    have hws : (s.cast m x).2.1 ≤ (s.cast m x).2.2 ∧ (s.cast m x).2.2 ≤ 32000 := by
      by_cases k2 : m.kind = 2
      · have hn := hs.next k2
        unfold HSt.cast
        rw [if_pos k2]
        have e : m.rows.getD s.next [] = m.rows[s.next] := by simp [hn]
        exact hrow _ (by rw [e]; exact List.getElem_mem hn)
      · by_cases k3 : m.kind = 3
        · refine ⟨((hs.pos k3).cast h k3 hx).1, ?_⟩
          unfold HSt.cast
          rw [if_neg k2, if_pos k3]
          have := (hrow _ h.row0_mem).2
          simp only
          omega
        · unfold HSt.cast
          rw [if_neg k2, if_neg k3]
          exact hrow _ h.row0_mem
    simp only [runS]
    refine ⟨e2, hws.1, by rw [e1]; exact h1, hws.2, fun hne => ih _ (e3 hne)⟩
theorem st_start {m : HMd} (h : ModOk m) : StOk m ⟨0, [], 0⟩ := by
  refine ⟨fun k => ?_, fun k => ?_⟩
  · obtain ⟨r, t, e⟩ := h.rows0
    rw [e]; simp
  · have hka : 1 ≤ m.after := by
      rcases h.kind with ⟨k', _⟩ | ⟨k', _⟩ | ⟨_, _, k'⟩ <;> omega
    exact ⟨by show 0 < m.after.toNat; omega, fun h => absurd rfl h, fun h => absurd rfl h, fun h => absurd rfl h⟩
theorem run_shL {m : HMd} (h : ModOk m) {l : List Int} (hl : regB m.outs l) : runS m ⟨0, [], 0⟩ l = shL m l := by
  refine runS_all (fun k => ?_) fun x hx => ?_
  · rcases h.kind with ⟨k', _⟩ | ⟨k', _⟩ | ⟨_, _, k'⟩ <;> omega
  · have := hl x hx
    have e := (h.row _ h.row0_mem).1
    exact ⟨this.1, by omega⟩
theorem go_shL {m : HMd} (h : ModOk m) {l : List Int} (hl : regB m.outs l) : GoOk (shL m l) := by
  rw [← run_shL h hl]; exact run_go h l _ (st_start h) hl
theorem sh_pos {m : HMd} (h : ModOk m) {l : List Int} (hl : regB m.outs l) : ∀ x ∈ shL m l, 1 ≤ x.2 := fun x hx => by
  obtain ⟨i, hi, rfl⟩ := List.mem_map.1 hx
  exact (wtI_bd h hl (List.mem_range.1 hi)).2.2.1
theorem regE_zero {m : HMd} (h : ModOk m) {l : List Int} (hl : regB m.outs l) (hn : l.length ≤ 400) : regE m l = 0 := by
  unfold regE
  rw [if_neg (by rw [modB_iff.2 h]; decide), if_neg (by omega), if_neg]
  rw [Bool.not_eq_false, List.all_eq_true]
  exact fun x hx => decide_eq_true (hl x hx)
theorem digL_len (o : Nat) : ∀ n x, (digL o n x).length = n
  | 0, _ => rfl
  | n + 1, x => by simp [digL, digL_len o n]
theorem digL_reg {o : Nat} (ho : 0 < o) : ∀ n x, regB o (digL o n x)
  | 0, _ => fun y hy => by simp [digL] at hy
  | n + 1, x => fun y hy => by
    simp only [digL, List.mem_cons] at hy
    rcases hy with rfl | hy
    · have := Nat.mod_lt x ho; omega
    · exact digL_reg ho n _ y hy
theorem pr_nn : ∀ {l : List (Int × Int)}, GoOk l → 0 ≤ prR l
  | [], _ => by simp only [prR]; decide
  | (w, s) :: t, ⟨h1, _, h3, _, h5⟩ => by
    simp only [prR]
    by_cases h0 : w = 0
    · rw [h0]
      have : ((0 : Int) : Rat) / (s : Rat) * prR t = 0 := by simp; grind
      rw [this]; exact Rat.le_refl
    · have ih := pr_nn (h5 h0)
      have hw : (0 : Rat) ≤ (w : Rat) := by rw [← Rat.intCast_zero]; exact Rat.intCast_le_intCast.2 h1
      have hs : (0 : Rat) < (s : Rat) := by rw [← Rat.intCast_zero]; exact Rat.intCast_lt_intCast.2 (by omega)
      exact Rat.mul_nonneg (by rw [Rat.div_def]; exact Rat.mul_nonneg hw (Rat.le_of_lt (Rat.inv_pos.2 hs))) ih
theorem digL_snoc (o : Nat) : ∀ i x, digL o (i + 1) x = digL o i x ++ [((x / o ^ i % o : Nat) : Int)]
  | 0, x => by simp [digL]
  | i + 1, x => by
    have ih := digL_snoc o i (x / o)
    rw [show digL o (i + 1 + 1) x = ((x % o : Nat) : Int) :: digL o (i + 1) (x / o) from rfl, ih, Nat.div_div_eq_div_mul, Nat.mul_comm o, ← Nat.pow_succ]
    rfl
theorem pow_bd {o i n : Nat} (h1 : 1 ≤ o) (ho : o ≤ 4) (hi : i ≤ n) (hn : n ≤ 4) : 1 ≤ o ^ i ∧ o ^ i ≤ 256 :=
  ⟨Nat.pow_pos h1, Nat.le_trans (Nat.pow_le_pow_left ho i) (Nat.le_trans (Nat.pow_le_pow_right (by omega) (show i ≤ 4 by omega)) (by decide))⟩
/-- the chances of the registers -/
def allF (m : HMd) (n : Nat) (x : Nat) : Rat := prR (runS m ⟨0, [], 0⟩ (digL m.outs n x))
/-- what the sum is behind x registers -/
structure AllOk (m : HMd) (n x : Nat) (N D : Int) : Prop where
  ok : OkC ⟨N, D⟩
  val : ratV N D = sumN (allF m n) x
theorem AllOk.start (m : HMd) (n : Nat) : AllOk m n 0 0 1 := ⟨ok_zero, by unfold ratV; simp only [sumN]; simp; grind⟩
theorem all_ch {m : HMd} (h : ModOk m) (ho : m.outs ≤ 4) (hw : ∀ r ∈ m.rows, ∀ x ∈ r, x ≤ 12) {n : Nat} (hn : n ≤ 4) (x : Nat) : ∃ N D, chanR m (digL m.outs n x) = (N, D, 0) ∧ OkC ⟨N, D⟩ ∧ ratV N D = allF m n x := by
  have hreg := digL_reg (o := m.outs) h.n1 n x
  have hlen := digL_len m.outs n x
  have hg := go_shL h hreg
  have hp := sh_pos h hreg
  have hsl : (shL m (digL m.outs n x)).length = n := by unfold shL; simp [hlen]
  have hrt : ∀ r ∈ m.rows, totI r ≤ 48 := fun r hr => by
    have a1 := totI_le (b := 12) (r := r) (hw r hr)
    rw [(h.row r hr).1] at a1
    omega
  have hb : ∀ y ∈ shL m (digL m.outs n x), y.2 ≤ 48 := fun y hy => by
    obtain ⟨i, hi, rfl⟩ := List.mem_map.1 hy
    exact wt_le48 h hrt hreg (List.mem_range.1 hi)
  have h0 := chGo_small 48 (by omega) (shL m (digL m.outs n x)) ⟨1, 1⟩ hg ok_one hb (by
    rw [hsl]
    have : n = 0 ∨ n = 1 ∨ n = 2 ∨ n = 3 ∨ n = 4 := by omega
    rcases this with rfl | rfl | rfl | rfl | rfl <;> decide)
  have hE : chanR m (digL m.outs n x) = chGo (shL m (digL m.outs n x)) ⟨1, 1⟩ := by
    unfold chanR
    rw [if_pos (regE_zero h hreg (by rw [hlen]; omega))]
  have hR := chGo_rat (n := (chGo (shL m (digL m.outs n x)) ⟨1, 1⟩).1) (d := (chGo (shL m (digL m.outs n x)) ⟨1, 1⟩).2.1) hg hp (by rw [← h0])
  refine ⟨_, _, by rw [hE, ← h0], hR.1, ?_⟩
  rw [hR.2, allF, run_shL h hreg]
theorem AllOk.step {m : HMd} (h : ModOk m) {n x : Nat} (hx : x < m.outs ^ n) {N D N' D' : Int} (hs : AllOk m n x N D) (h1 : OkC ⟨N', D'⟩) (h2 : ratV N' D' = allF m n x) :
    (eitherR ⟨N, D⟩ ⟨N', D'⟩).2.2 = 10 ∨ ∃ N2 D2, eitherR ⟨N, D⟩ ⟨N', D'⟩ = (N2, D2, 0) ∧ AllOk m n (x + 1) N2 D2 := by
  have hsum : ratV N D + ratV N' D' = sumN (allF m n) (x + 1) := by rw [hs.val, h2]; rfl
  have h9 : sumN (allF m n) (x + 1) ≤ 1 := by
    have := sumN_mono (f := allF m n) (n := x + 1) (k := m.outs ^ n) (fun i => pr_nn (run_go h _ _ (st_start h) (digL_reg h.n1 n i))) hx
    have e := all_one h n _ (st_start h)
    rw [show sumN (allF m n) (m.outs ^ n) = 1 from e] at this
    exact this
  rcases either_rat hs.ok h1 (by rw [hsum]; exact h9) with he | ⟨N2, D2, e1, e2, e3⟩
  · exact .inl he
  · exact .inr ⟨N2, D2, e1, e2, by rw [e3, hsum]⟩
theorem AllOk.end_ {m : HMd} (h : ModOk m) {n : Nat} {N D : Int} (hs : AllOk m n (m.outs ^ n) N D) : N = 1 ∧ D = 1 := by
  have e := all_one h n _ (st_start h)
  have hv := hs.val
  rw [show sumN (allF m n) (m.outs ^ n) = 1 from e] at hv
  have d1 := hs.ok.d1
  have hone : (1 : Rat) = ratV 1 1 := by unfold ratV; simp; grind
  rw [hone, ratV_eq d1 (by omega)] at hv
  simp only at d1
  exact co_unique hs.ok.co ok_one.co (by omega) (by omega) hv
end Go.Proofs.Ytiikkcifdhcejaa
namespace Go.Proofs.Ytiikkcifdhcejaa

theorem sh_steady {m : HMd} (hk : m.kind = 1) (l : List Int) : shL m l = l.map fun x => (m.row0.getD x.toNat 0, totI m.row0) := by
  unfold shL
  apply List.ext_getElem
  · simp
  · intro i h1 h2
    simp at h1
    simp [wtI, hk, h1]
theorem prW_perm {l m : List (Int × Int)} (h : l.Perm m) : prW l = prW m := by
  induction h with
  | nil => rfl
  | cons x _ ih => simp only [prW, ih]
  | swap x y l => simp only [prW]; ac_rfl
  | trans _ _ h1 h2 => exact h1.trans h2
theorem prS_perm {l m : List (Int × Int)} (h : l.Perm m) : prS l = prS m := by
  induction h with
  | nil => rfl
  | cons x _ ih => simp only [prS, ih]
  | swap x y l => simp only [prS]; ac_rfl
  | trans _ _ h1 h2 => exact h1.trans h2
theorem chan_ok {m : HMd} {l : List Int} (h : (chanR m l).2.2 = 0) : regE m l = 0 ∧ chanR m l = chGo (shL m l) ⟨1, 1⟩ := by
  unfold chanR at h ⊢
  by_cases h0 : regE m l = 0
  · rw [if_pos h0]; exact ⟨h0, rfl⟩
  · rw [if_neg h0] at h; exact absurd h h0
theorem regE_ok {m : HMd} {l : List Int} (h : regE m l = 0) : ModOk m ∧ regB m.outs l ∧ l.length ≤ 400 := by
  unfold regE at h
  by_cases h1 : modB m = false
  · rw [if_pos h1] at h; cases h
  · rw [if_neg h1] at h
    by_cases h2 : 400 < l.length
    · rw [if_pos h2] at h; cases h
    · rw [if_neg h2] at h
      by_cases h3 : (l.all fun x => decide (0 ≤ x ∧ x < m.outs)) = false
      · rw [if_pos h3] at h; cases h
      · rw [Bool.not_eq_false] at h1 h3
        refine ⟨modB_iff.1 h1, fun x hx => ?_, by omega⟩
        have := List.all_eq_true.1 h3 x hx
        simpa using this
theorem regE_of {m : HMd} {l : List Int} (h1 : ModOk m) (h2 : regB m.outs l) (h3 : l.length ≤ 400) : regE m l = 0 := by
  unfold regE
  rw [if_neg (by rw [modB_iff.2 h1]; simp), if_neg (by omega), if_neg ?_]
  rw [Bool.not_eq_false, List.all_eq_true]
  intro x hx
  have := h2 x hx
  simpa using this
/-- by a steady model the order of a register is nothing -/
theorem chan_perm {m : HMd} (hk : m.kind = 1) {l l2 : List Int} (hp : l.Perm l2) (h1 : (chanR m l).2.2 = 0) (h2 : (chanR m l2).2.2 = 0) : (chanR m l2).1 = (chanR m l).1 ∧ (chanR m l2).2.1 = (chanR m l).2.1 := by
  obtain ⟨r1, e1⟩ := chan_ok h1
  obtain ⟨r2, e2⟩ := chan_ok h2
  obtain ⟨hm, hl, _⟩ := regE_ok r1
  obtain ⟨_, hl2, _⟩ := regE_ok r2
  have hP : (shL m l).Perm (shL m l2) := by rw [sh_steady hk, sh_steady hk]; exact hp.map _
  have g1 : chGo (shL m l) ⟨1, 1⟩ = ((chanR m l).1, (chanR m l).2.1, 0) := by rw [← e1, ← h1]
  have g2 : chGo (shL m l2) ⟨1, 1⟩ = ((chanR m l2).1, (chanR m l2).2.1, 0) := by rw [← e2, ← h2]
  have := chGo_same (go_shL hm hl) (go_shL hm hl2) g1 g2 (sh_pos hm hl) (sh_pos hm hl2) (by rw [prW_perm hP, prS_perm hP])
  exact ⟨this.1.symm, this.2.symm⟩
/-- a list with all of it doubled; a model with all weights doubled -/
def dbL (l : List Int) : List Int := l.map fun x => 2 * x
def HMd.db (m : HMd) : HMd := ⟨m.kind, m.rows.map dbL, m.after⟩
theorem dbL_getD (l : List Int) (i : Nat) : (dbL l).getD i 0 = 2 * l.getD i 0 := by
  unfold dbL
  rw [List.getD_eq_getElem?_getD, List.getElem?_map, List.getD_eq_getElem?_getD]
  cases l[i]? <;> simp
theorem dbL_tot : ∀ l : List Int, totI (dbL l) = 2 * totI l
  | [] => rfl
  | x :: l => by have := dbL_tot l; unfold dbL at this ⊢; simp only [List.map_cons, totI, this]; omega
theorem db_row (m : HMd) (i : Nat) : m.db.rows.getD i [] = dbL (m.rows.getD i []) := by
  unfold HMd.db
  rw [List.getD_eq_getElem?_getD, List.getElem?_map, List.getD_eq_getElem?_getD]
  cases m.rows[i]? <;> simp [dbL]
theorem db_row0 (m : HMd) : m.db.row0 = dbL m.row0 := by unfold HMd.row0; exact db_row m 0
theorem db_outs (m : HMd) : m.db.outs = m.outs := by
  unfold HMd.outs HMd.db
  cases m.rows <;> simp [dbL]
theorem db_wt {m : HMd} (hk : m.kind ≠ 3) (l : List Int) (i : Nat) : wtI m.db l i = (2 * (wtI m l i).1, 2 * (wtI m l i).2) := by
  have hk2 : m.db.kind = m.kind := rfl
  unfold wtI
  simp only [hk2, if_neg hk, db_row, db_row0, dbL_getD, dbL_tot]
  split <;> rfl
theorem db_sh {m : HMd} (hk : m.kind ≠ 3) (l : List Int) : shL m.db l = (shL m l).map fun x => (2 * x.1, 2 * x.2) := by
  unfold shL
  rw [List.map_map]
  exact List.map_congr_left fun i _ => db_wt hk l i
/-- with all weights doubled chances stay the same -/
theorem chan_db {m : HMd} (hk : m.kind ≠ 3) (hd : ModOk m.db) {l : List Int} (h : (chanR m l).2.2 = 0) : chanR m.db l = chanR m l := by
  obtain ⟨r1, e1⟩ := chan_ok h
  obtain ⟨hm, hl, h4⟩ := regE_ok r1
  have r2 : regE m.db l = 0 := regE_of hd (by rw [db_outs]; exact hl) h4
  have e2 : chanR m.db l = chGo (shL m.db l) ⟨1, 1⟩ := by unfold chanR; rw [if_pos r2]
  rw [e2, e1, db_sh hk]
  refine chGo_two _ _ fun x hx => ?_
  unfold shL at hx
  obtain ⟨i, hi, rfl⟩ := List.mem_map.1 hx
  have := wtI_bd hm hl (List.mem_range.1 hi)
  exact ⟨this.1, this.2.2.1⟩
theorem db_ov {m : HMd} (hk : m.kind ≠ 3) (l : List Int) : ∀ k, ovN m.db l k = 2 ^ k * ovN m l k ∧ unN m.db l k = 2 ^ k * unN m l k
  | 0 => by simp [ovN, unN]
  | k + 1 => by
    obtain ⟨h1, h2⟩ := db_ov hk l k
    simp only [ovN, unN, h1, h2, db_wt hk]
    have e1 : ∀ x : Int, (2 * x).toNat = 2 * x.toNat := fun x => by omega
    rw [e1, e1, Nat.pow_succ]
    constructor <;> ac_rfl
theorem cmp_db {m : HMd} (hk : m.kind ≠ 3) (l : List Int) : cmpM m.db m l = 0 := by
  obtain ⟨h1, h2⟩ := db_ov hk l l.length
  unfold cmpM
  rw [h1, h2, show 2 ^ l.length * ovN m l l.length * unN m l l.length = ovN m l l.length * (2 ^ l.length * unN m l l.length) by ac_rfl]
  unfold cmpN
  rw [if_neg (by omega), if_pos rfl]
theorem regs_two {a b : HMd} (ha : ModOk a) (hb : ModOk b) (ho : a.outs = b.outs) {l : List Int} (hl : regB a.outs l) (h4 : l.length ≤ 400) : regsE [a, b] l = 0 := by
  unfold regsE
  rw [if_pos (by simp [modsB, outs0, modB_iff.2 ha, modB_iff.2 hb, ho])]
  unfold inE
  rw [if_neg (by omega), if_neg]
  rintro ⟨_, h⟩
  obtain ⟨x, hx, h2⟩ := List.any_eq_true.1 h
  have := hl x hx
  have h3 : x < 0 ∨ (a.outs : Int) ≤ x := by unfold outB at h2; exact of_decide_eq_true h2
  omega
theorem cmpR_db {m : HMd} (hk : m.kind ≠ 3) (hd : ModOk m.db) {l : List Int} (hm : ModOk m) (hl : regB m.outs l) (h4 : l.length ≤ 400) : hcmpR m.db m l = (0, 0) := by
  unfold hcmpR
  rw [if_pos (regs_two hd hm (db_outs m) (by rw [db_outs]; exact hl) h4), cmp_db hk]
/-- counts add up -/
theorem cntI_append (x : Int) (m : List Int) : ∀ l : List Int, cntI x (l ++ m) = cntI x l + cntI x m
  | [] => by simp [cntI]
  | y :: l => by simp only [List.cons_append, cntI, cntI_append x m l]; omega
theorem cnt_cut {l : List Int} {n at_ : Nat} (h : ∀ x ∈ l, 0 ≤ x ∧ x < (n : Int)) {y : Nat} (hy : y < n) : (cntL l n l.length).getD y 0 = (cntL (l.take at_) n (l.take at_).length).getD y 0 + (cntL (l.drop at_) n (l.drop at_).length).getD y 0 := by
  rw [cntL_get h _ (Nat.le_refl _) y hy, cntL_get (fun x hx => h x (List.mem_of_mem_take hx)) _ (Nat.le_refl _) y hy, cntL_get (fun x hx => h x (List.mem_of_mem_drop hx)) _ (Nat.le_refl _) y hy, List.take_length, List.take_length, List.take_length, ← cntI_append, List.take_append_drop]
end Go.Proofs.Ytiikkcifdhcejaa
namespace Go.Proofs.Ytiikkcifdhcejaa
open Go.RowKit

theorem owns_off {W : World} {base e s n b k : Nat} {v u : Value} {xs : List Value} (h : W.ownsRow base e s v n xs) (hne : v.ownBlock ≠ some b) : (W.setCell ⟨b, k, none⟩ u).ownsRow base e s v n xs :=
  ⟨h.1, h.2.imp id fun ⟨g, cap, cur, h1, h2, h3, h4⟩ => ⟨g, cap, cur, h1, h2, (Below.heap_setCell W ⟨b, k, none⟩ u g (fun e1 => hne (by rw [h1]; show some g = some b; exact congrArg some e1))).trans h3, h4⟩⟩
theorem owns_put {W : World} {base e n k : Nat} {v : Value} {xs : List Value} (u : Value) (h : W.ownsRow base e 1 v n xs) (hk : k < n) :
    ∃ g cap, v = .slice (some ⟨g, 0, none⟩) n cap ∧ base ≤ g ∧ W.frozen? ⟨g, k, none⟩ = false ∧ W.cell? ⟨g, k, none⟩ = xs[k]? ∧ (W.setCell ⟨g, k, none⟩ u).ownsRow base e 1 v n (xs.set k u) := by
  rcases h.2 with ⟨_, h0⟩ | ⟨g, cap, cur, h1, h2, h3, h4, h5, h6, h7⟩
  · omega
  · refine ⟨g, cap, h1, h2, frozen_of_row W g k cur e h3, ?_, by simp [h.1], .inr ⟨g, cap, cur.setIfInBounds k u, h1, h2, heap_setCell_same W g k cur e u h3, h4, h5, by simpa using h6, ?_⟩⟩
    · have hb : Blk W g cur e := h3
      have hks : k < cur.size := by omega
      rw [hb.cell k, ← h7, List.getElem?_take, if_pos (by omega)]
      simp
    · rw [Array.toList_setIfInBounds, List.take_set, h7]
theorem flat_ll (ls : List LL) : flat LL.cells ls = ls.map LL.val := flat_one _ ls
/-- a number in row i is changed -/
theorem OwR.put {W : World} {base : Nat} {v : Value} {ls : List LL} {i k : Nat} (h : OwR W base v ls) (hs : SepR ls) (hi : i < ls.length) (hk : k < ls[i].l.length) (x : Int) :
    ∃ g cap, ls[i].a = some ⟨g, 0, none⟩ ∧ ls[i].c = cap ∧ base ≤ g ∧ W.frozen? ⟨g, k, none⟩ = false ∧ W.cell? ⟨g, k, none⟩ = some (.int .i64 ls[i].l[k]) ∧
      OwR (W.setCell ⟨g, k, none⟩ (.int .i64 x)) base v (ls.set i ⟨ls[i].a, ls[i].c, ls[i].l.set k x⟩) ∧ SepR (ls.set i ⟨ls[i].a, ls[i].c, ls[i].l.set k x⟩) := by
  obtain ⟨g, cap, e1, h2, h3, h4, h5⟩ := owns_put (.int .i64 x) (h.rows _ (List.getElem_mem hi)) hk
  obtain ⟨q, hq⟩ : ∃ q : LL, q = ⟨ls[i].a, ls[i].c, ls[i].l.set k x⟩ := ⟨_, rfl⟩
  have hqv : q.val = ls[i].val := by rw [hq]; unfold LL.val; simp
  have hqa : q.a = ls[i].a := by rw [hq]
  have ea : ls[i].a = some ⟨g, 0, none⟩ := by unfold LL.val at e1; injection e1
  have ec : ls[i].c = cap := by unfold LL.val at e1; injection e1
  refine ⟨g, cap, ea, ec, h2, h3, ?_, ?_, ?_⟩
  · rw [h4, flat_int, List.getElem?_map, List.getElem?_eq_getElem hk]; rfl
  · rw [← hq]
    refine ⟨?_, fun r hr => ?_⟩
    · have ef : flat LL.cells (ls.set i q) = flat LL.cells ls := by
        rw [flat_ll, flat_ll, List.map_set, hqv]
        apply List.ext_getElem
        · simp
        · intro j h1 h2; rw [List.getElem_set]; split
          · rename_i e; subst e; simp
          · rfl
      rw [List.length_set, ef]
      refine owns_off h.own ?_
      rcases rows_apart (h.rows _ (List.getElem_mem hi)) h.own (by decide) with h8 | h8
      · unfold LL.val at h8; rw [ea] at h8; simp [Value.ownBlock] at h8
      · unfold LL.val at h8; rw [ea] at h8; exact fun e => h8 (by rw [e]; rfl)
    · obtain ⟨j, hj, rfl⟩ := List.getElem_of_mem hr
      rw [List.length_set] at hj
      rw [List.getElem_set]
      by_cases e : i = j
      · subst e
        rw [if_pos rfl]
        have e5 : flat intCell q.l = (flat intCell ls[i].l).set k (.int .i64 x) := by rw [hq, flat_int, flat_int, List.map_set]
        rw [hqv, e5, show q.l.length = ls[i].l.length by rw [hq]; simp]
        exact h5
      · rw [if_neg e]
        refine owns_off (h.rows _ (List.getElem_mem hj)) fun e9 => ?_
        unfold LL.val at e9
        cases ha : ls[j].a with
        | none => rw [ha] at e9; simp [Value.ownBlock] at e9
        | some ad =>
          rw [ha] at e9
          have e10 : ad.block = g := by simpa [Value.ownBlock] using e9
          unfold SepR at hs
          rw [List.pairwise_iff_getElem] at hs
          rcases Nat.lt_or_gt_of_ne e with h9 | h9
          · have := hs i j hi hj h9 _ _ ea ha; simp at this; omega
          · have := hs j i hj hi h9 _ _ ha ea; simp at this; omega
  · rw [← hq]
    unfold SepR at hs ⊢
    rw [List.pairwise_iff_getElem] at hs ⊢
    intro a b ha hb hab ad ad' e1 e2
    rw [List.length_set] at ha hb
    have f : ∀ j (hj : j < ls.length), ((ls.set i q)[j]'(by simpa using hj)).a = ls[j].a := fun j hj => by
      rw [List.getElem_set]; split
      · rename_i e; subst e; exact hqa
      · rfl
    rw [f a ha] at e1; rw [f b hb] at e2
    exact hs a b ha hb hab ad ad' e1 e2
/-- the first k numbers are doubled -/
def dbK (k : Nat) (r : List Int) : List Int := (r.take k).map (fun x => 2 * x) ++ r.drop k
theorem dbK_len (k : Nat) (r : List Int) : (dbK k r).length = r.length := by unfold dbK; simp; omega
theorem dbK_zero (r : List Int) : dbK 0 r = r := by simp [dbK]
theorem dbK_all (r : List Int) : dbK r.length r = dbL r := by simp [dbK, dbL]
theorem dbK_at {k : Nat} {r : List Int} (hk : k < r.length) : (dbK k r)[k]'(by rw [dbK_len]; exact hk) = r[k] := by
  unfold dbK
  rw [List.getElem_append_right (by simp; omega)]
  simp [Nat.min_eq_left (Nat.le_of_lt hk)]
theorem dbK_set {k : Nat} {r : List Int} (hk : k < r.length) : (dbK k r).set k (2 * r[k]) = dbK (k + 1) r := by
  unfold dbK
  rw [List.set_append_right _ _ (by simp; omega), List.take_succ_eq_append_getElem hk, List.map_append, List.append_assoc]
  simp [Nat.min_eq_left (Nat.le_of_lt hk)]
  rw [List.drop_eq_getElem_cons hk]; rfl
/-- row j when the rows before i are doubled, and k numbers of row i -/
def dbAt (R : List (List Int)) (i k j : Nat) : List Int := if j < i then dbL (R.getD j []) else if j = i then dbK k (R.getD j []) else R.getD j []
theorem dbAt_start (R : List (List Int)) (j : Nat) : dbAt R 0 0 j = R.getD j [] := by
  unfold dbAt
  rw [if_neg (by omega)]
  split
  · exact dbK_zero _
  · rfl
theorem dbAt_row (R : List (List Int)) (i j : Nat) : dbAt R i (R.getD i []).length j = dbAt R (i + 1) 0 j := by
  unfold dbAt
  by_cases h1 : j < i
  · rw [if_pos h1, if_pos (by omega)]
  · rw [if_neg h1]
    by_cases h2 : j = i
    · subst h2
      rw [if_pos rfl, if_pos (by omega), dbK_all]
    · rw [if_neg h2, if_neg (by omega)]
      split
      · rw [dbK_zero]
      · rfl
/-- rows that are doubled in place: as far as i, k -/
structure TwR (w : World) (base : Nat) (v : Value) (R : List (List Int)) (top : Nat) (i k : Nat) (ls : List LL) (W : World) : Prop where
  ow : OwR W base v ls
  sep : SepR ls
  len : ls.length = R.length
  row : ∀ j (hj : j < ls.length), ls[j].l = dbAt R i k j
  low : ∀ r ∈ ls, ∀ ad, r.a = some ad → ad.block < top
  hw : Below w.heap.size w W
theorem TwR.next {w : World} {base : Nat} {v : Value} {R : List (List Int)} {top i : Nat} {ls : List LL} {W : World} (h : TwR w base v R top i (R.getD i []).length ls W) : TwR w base v R top (i + 1) 0 ls W :=
  ⟨h.ow, h.sep, h.len, fun j hj => by rw [h.row j hj, dbAt_row], h.low, h.hw⟩
theorem TwR.step {w : World} {base : Nat} {v : Value} {R : List (List Int)} {top i k : Nat} {ls : List LL} {W : World} (h : TwR w base v R top i k ls W) (hi : i < R.length) (hk : k < (R.getD i []).length) (hb : w.heap.size ≤ base) :
    ∃ (hil : i < ls.length) (g cap : Nat), ls[i].a = some ⟨g, 0, none⟩ ∧ ls[i].c = cap ∧ g < top ∧ base ≤ g ∧ ls[i].l.length = (R.getD i []).length ∧ W.frozen? ⟨g, k, none⟩ = false ∧ W.cell? ⟨g, k, none⟩ = some (.int .i64 ((R.getD i []).getD k 0)) ∧
      TwR w base v R top i (k + 1) (ls.set i ⟨ls[i].a, ls[i].c, ls[i].l.set k (2 * (R.getD i []).getD k 0)⟩) (W.setCell ⟨g, k, none⟩ (.int .i64 (2 * (R.getD i []).getD k 0))) := by
  have hil : i < ls.length := by rw [h.len]; exact hi
  have hri : ls[i].l = dbK k (R.getD i []) := by rw [h.row i hil]; unfold dbAt; rw [if_neg (by omega), if_pos rfl]
  have hlen : ls[i].l.length = (R.getD i []).length := by rw [hri, dbK_len]
  have hkl : k < ls[i].l.length := by rw [hlen]; exact hk
  obtain ⟨g, cap, e1, e2, h1, h2, h3, h4, h5⟩ := h.ow.put h.sep hil hkl (2 * (R.getD i []).getD k 0)
  have hgd : (R.getD i []).getD k 0 = (R.getD i [])[k] := by rw [List.getD_eq_getElem?_getD, List.getElem?_eq_getElem hk]; rfl
  have hx : ls[i].l[k] = (R.getD i []).getD k 0 := by
    rw [hgd]; simp only [hri]; exact dbK_at hk
  rw [hx] at h3
  have hset : ls[i].l.set k (2 * (R.getD i []).getD k 0) = dbK (k + 1) (R.getD i []) := by rw [hri, hgd, dbK_set hk]
  refine ⟨hil, g, cap, e1, e2, h.low _ (List.getElem_mem hil) _ e1, h1, hlen, h2, h3, h4, h5, by simp [h.len], fun j hj => ?_, fun r hr ad e => ?_, h.hw.setCell (p := ⟨g, k, none⟩) (by show w.heap.size ≤ g; omega) _⟩
  · rw [List.length_set] at hj
    rw [List.getElem_set]
    by_cases e : i = j
    · subst e
      rw [if_pos rfl]
      show ls[i].l.set k _ = _
      rw [hset]; unfold dbAt; rw [if_neg (by omega), if_pos rfl]
    · rw [if_neg e, h.row j hj]
      unfold dbAt
      by_cases h9 : j < i
      · rw [if_pos h9, if_pos h9]
      · rw [if_neg h9, if_neg h9, if_neg (fun q => e q.symm), if_neg (fun q => e q.symm)]
  · obtain ⟨j, hj, rfl⟩ := List.getElem_of_mem hr
    rw [List.length_set] at hj
    rw [List.getElem_set] at e
    split at e
    · exact h.low _ (List.getElem_mem hil) _ e
    · exact h.low _ (List.getElem_mem hj) _ e
theorem TwR.start {w : World} {base : Nat} {y : Md} {top : Nat} {W : World} (h : OwR W base (.slice y.a y.rows.length y.c) y.rows) (hs : SepR y.rows) (ht : W.heap.size ≤ top) (hw : Below w.heap.size w W) : TwR w base (.slice y.a y.rows.length y.c) (y.rows.map LL.l) top 0 0 y.rows W :=
  ⟨h, hs, by simp, fun j hj => by rw [dbAt_start, List.getD_eq_getElem?_getD, List.getElem?_map, List.getElem?_eq_getElem hj]; rfl, fun r hr ad e => Nat.lt_of_lt_of_le (own_lt (h.rows r hr) ad e) ht, hw⟩
theorem TwR.below {w : World} {base : Nat} {v : Value} {R : List (List Int)} {top i k : Nat} {ls : List LL} {W W' : World} (h : TwR w base v R top i k ls W) (hb : Below W.heap.size W W') : TwR w base v R top i k ls W' :=
  ⟨h.ow.below hb, h.sep, h.len, h.row, h.low, h.hw.trans (hb.mono h.hw.size)⟩
/-- the cell of row i -/
theorem TwR.cell {w : World} {base n c : Nat} {A : Option Addr} {R : List (List Int)} {top i k : Nat} {ls : List LL} {W : World} (h : TwR w base (.slice A n c) R top i k ls W) (hi : i < R.length) :
    ∃ b o, A = some ⟨b, o, none⟩ ∧ ∃ (ra : Option Addr) (rc : Nat), W.cell? ⟨b, o + i, none⟩ = some (.slice ra (R.getD i []).length rc) ∧ ∀ (hil : i < ls.length), ra = ls[i].a ∧ rc = ls[i].c := by
  obtain ⟨A', c', e, hs⟩ := Sl.of_own h.ow.own
  injection e with e1 e2 e3
  subst e1
  have hil : i < ls.length := by rw [h.len]; exact hi
  obtain ⟨b, o, e4, hb, hc⟩ := hs.at_ (fun _ => rfl) hil
  refine ⟨b, o, e4, ls[i].a, ls[i].c, ?_, fun _ => ⟨rfl, rfl⟩⟩
  have h1 := hc 0 _ rfl
  rw [Nat.mul_one, Nat.add_zero] at h1
  have hri : ls[i].l.length = (R.getD i []).length := by
    rw [h.row i hil]; unfold dbAt; rw [if_neg (by omega), if_pos rfl, dbK_len]
  rw [h1]; unfold LL.val; rw [hri]
/-- at the end all is doubled -/
theorem TwR.db {w : World} {base : Nat} {v : Value} {R : List (List Int)} {top : Nat} {ls : List LL} {W : World} (h : TwR w base v R top R.length 0 ls W) : ls.map LL.l = R.map dbL := by
  apply List.ext_getElem
  · simp [h.len]
  · intro j h1 h2
    simp at h1 h2
    rw [List.getElem_map, List.getElem_map, h.row j h1]
    unfold dbAt
    rw [if_pos h2, List.getD_eq_getElem?_getD, List.getElem?_eq_getElem h2]; rfl
theorem TwR.md {w : World} {base n c : Nat} {A : Option Addr} {R : List (List Int)} {top : Nat} {ls : List LL} {W : World} (h : TwR w base (.slice A n c) R top R.length 0 ls W) (hl : R.length ≤ 1000000) (hr : ∀ r ∈ R, r.length ≤ 1000000) (kd af : Int) :
    ls.length = n ∧ (⟨kd, A, c, ls, af⟩ : Md).reads W W.heap.size ∧ (⟨kd, A, c, ls, af⟩ : Md).m = (⟨kd, R, af⟩ : HMd).db := by
  obtain ⟨A', c', e, hs⟩ := h.ow.md (by rw [h.len]; exact hl) (fun r hr2 => by
    have h1 : r.l ∈ ls.map LL.l := List.mem_map_of_mem hr2
    rw [h.db] at h1
    obtain ⟨q, hq, e⟩ := List.mem_map.1 h1
    rw [← e]; unfold dbL; rw [List.length_map]; exact hr q hq) kd af
  injection e with e1 e2 e3
  subst e1 e3
  exact ⟨e2.symm, hs, by unfold Md.m HMd.db; simp only [h.db]⟩
end Go.Proofs.Ytiikkcifdhcejaa
namespace Go.Proofs.Ytiikkcifdhcejaa

/-- digits as integers -/
def dI (l : List Nat) : List Int := l.map fun (x : Nat) => (x : Int)
theorem dI_len (l : List Nat) : (dI l).length = l.length := by simp [dI]
theorem dI_get {l : List Nat} {k : Nat} (hk : k < l.length) : (dI l)[k]'(by rw [dI_len]; exact hk) = ((l.getD k 0 : Nat) : Int) := by simp [dI, hk]
/-- a product by a small number: i digits, and what is carried -/
structure MulGo (b n : Nat) (l : List Nat) (i : Nat) (o : List Nat) (c : Nat) : Prop where
  len : o.length = i
  dig : ∀ w ∈ o, w < b
  car : c ≤ n
  val : valD b o + b ^ i * c = valD b (l.take i) * n
theorem MulGo.start (b n : Nat) (l : List Nat) : MulGo b n l 0 [] 0 := ⟨rfl, fun w h => (by cases h), Nat.zero_le _, (by simp [valD])⟩
theorem carry_step {b o i v c : Nat} {r d : Nat} (e : b * d + r = c) (hv : o + b ^ i * c = v) : o + b ^ i * r + b ^ (i + 1) * d = v := by
  rw [Nat.pow_succ, ← hv, ← e, Nat.mul_add, ← Nat.mul_assoc]; omega
theorem MulGo.step {b n i c : Nat} {l o : List Nat} (h : MulGo b n l i o c) (hb : 0 < b) (hl : ∀ w ∈ l, w < b) (hi : i < l.length) :
    c + l.getD i 0 * n ≤ b * n ∧ MulGo b n l (i + 1) (o ++ [(c + l.getD i 0 * n) % b]) ((c + l.getD i 0 * n) / b) := by
  have hg : l.getD i 0 = l[i] := by simp [hi]
  have hlt := hl _ (List.getElem_mem hi)
  rw [← hg] at hlt
  have hcar := h.car
  have hval := h.val
  have hlen := h.len
  have h1 : l.getD i 0 * n + n ≤ b * n := by
    have := Nat.mul_le_mul_right n (show l.getD i 0 + 1 ≤ b from hlt)
    rw [Nat.add_mul, Nat.one_mul] at this; exact this
  have e := Nat.div_add_mod (c + l.getD i 0 * n) b
  have hle : c + l.getD i 0 * n ≤ b * n := by omega
  refine ⟨hle, by simp [hlen], fun w hw => ?_, ?_, ?_⟩
  · rcases List.mem_append.1 hw with hw | hw
    · exact h.dig w hw
    · rw [List.mem_singleton.1 hw]; exact Nat.mod_lt _ hb
  · have := Nat.div_le_div_right (c := b) hle
    rwa [Nat.mul_div_cancel_left _ hb] at this
  · rw [valD_snoc, hlen, List.take_succ_eq_append_getElem hi, valD_snoc, List.length_take, Nat.min_eq_left (by omega), ← hg, Nat.add_mul, ← hval]
    generalize (c + l.getD i 0 * n) / b = d at *
    generalize (c + l.getD i 0 * n) % b = r at *
    refine carry_step e ?_
    rw [Nat.mul_add, Nat.mul_assoc]; omega
theorem MulGo.more {b n i c : Nat} {l o : List Nat} (h : MulGo b n l i o c) (hb : 0 < b) (hi : l.length ≤ i) : MulGo b n l (i + 1) (o ++ [c % b]) (c / b) := by
  have hcar := h.car
  have hval := h.val
  have hlen := h.len
  refine ⟨by simp [hlen], fun w hw => ?_, Nat.le_trans (Nat.div_le_self _ _) hcar, ?_⟩
  · rcases List.mem_append.1 hw with hw | hw
    · exact h.dig w hw
    · rw [List.mem_singleton.1 hw]; exact Nat.mod_lt _ hb
  · have e := Nat.div_add_mod c b
    rw [valD_snoc, hlen, List.take_of_length_le (by omega)]
    rw [List.take_of_length_le hi] at hval
    generalize c / b = d at *
    generalize c % b = r at *
    exact carry_step e hval
theorem MulGo.end_ {b n i : Nat} {l o : List Nat} (h : MulGo b n l i o 0) (hi : l.length ≤ i) : valD b o = valD b l * n := by
  have := h.val
  rw [List.take_of_length_le hi] at this
  simpa using this
/-- how long the digits of a number are -/
theorem Rep.len_le {b k x : Nat} {l : List Nat} (h : Rep b l x) (hx : x < b ^ k) : l.length ≤ k := by
  rcases List.eq_nil_or_concat l with rfl | ⟨l', z, rfl⟩
  · simp
  · rw [List.concat_eq_append] at h ⊢
    have h1 := h.val
    rw [valD_snoc] at h1
    have h2 : z ≠ 0 := h.top z (by simp)
    have hz : z < b := h.dig z (by simp)
    rcases Nat.lt_or_ge k (l' ++ [z]).length with h3 | h3
    · rw [List.length_append, List.length_singleton] at h3
      have h4 : b ^ k ≤ b ^ l'.length := Nat.pow_le_pow_right (by omega) (by omega)
      have h5 : b ^ l'.length * 1 ≤ b ^ l'.length * z := Nat.mul_le_mul_left _ (by omega)
      omega
    · exact h3
theorem Rep.lt {b x : Nat} {l : List Nat} (h : Rep b l x) : x < b ^ l.length := by rw [← h.val]; exact valD_lt h.dig
/-- a product by a small number has few digits more -/
theorem Rep.mul_len {x n : Nat} {l m : List Nat} (h : Rep 10000 l x) (hm : Rep 10000 m (x * n)) (hn : n ≤ 100000) : m.length ≤ l.length + 2 := by
  refine hm.len_le ?_
  have h1 := h.lt
  rw [Nat.pow_add]
  have h2 : x * n ≤ x * 100000 := Nat.mul_le_mul_left _ hn
  generalize 10000 ^ l.length = q at *
  omega
/-- the product of a list -/
def prodI : List Int → Nat
  | [] => 1
  | w :: l => w.toNat * prodI l
theorem prodI_snoc (w : Int) : ∀ l : List Int, prodI (l ++ [w]) = prodI l * w.toNat
  | [] => by simp [prodI]
  | x :: l => by simp only [List.cons_append, prodI, prodI_snoc w l, Nat.mul_assoc]
theorem prodI_append (m : List Int) : ∀ l : List Int, prodI (l ++ m) = prodI l * prodI m
  | [] => by simp [prodI]
  | x :: l => by simp only [List.cons_append, prodI, prodI_append m l, Nat.mul_assoc]
theorem prodI_take {l : List Int} {i : Nat} (hi : i < l.length) : prodI (l.take (i + 1)) = prodI (l.take i) * l[i].toNat := by
  rw [List.take_succ_eq_append_getElem hi, prodI_snoc]
/-- the weights and the sums of all casts -/
def ovL (m : HMd) (l : List Int) : List Int := (List.range l.length).map fun i => (wtI m l i).1
def unL (m : HMd) (l : List Int) : List Int := (List.range l.length).map fun i => (wtI m l i).2
theorem ovL_len (m : HMd) (l : List Int) : (ovL m l).length = l.length := by simp [ovL]
theorem unL_len (m : HMd) (l : List Int) : (unL m l).length = l.length := by simp [unL]
theorem prod_ov (m : HMd) (l : List Int) : ∀ k, k ≤ l.length → prodI ((ovL m l).take k) = ovN m l k
  | 0, _ => rfl
  | k + 1, h => by
    rw [prodI_take (by rw [ovL_len]; omega), prod_ov m l k (by omega)]
    simp [ovL, ovN]
theorem prod_un (m : HMd) (l : List Int) : ∀ k, k ≤ l.length → prodI ((unL m l).take k) = unN m l k
  | 0, _ => rfl
  | k + 1, h => by
    rw [prodI_take (by rw [unL_len]; omega), prod_un m l k (by omega)]
    simp [unL, unN]
theorem prod_ovL (m : HMd) (l : List Int) : prodI (ovL m l) = ovN m l l.length := by
  have := prod_ov m l l.length (Nat.le_refl _)
  rwa [List.take_of_length_le (by rw [ovL_len]; exact Nat.le_refl _)] at this
theorem prod_unL (m : HMd) (l : List Int) : prodI (unL m l) = unN m l l.length := by
  have := prod_un m l l.length (Nat.le_refl _)
  rwa [List.take_of_length_le (by rw [unL_len]; exact Nat.le_refl _)] at this
end Go.Proofs.Ytiikkcifdhcejaa
namespace Go.Proofs.Ytiikkcifdhcejaa

/-- how far a new one goes ahead -/
def insAt (f : Nat → Bool) : Nat → Nat
  | 0 => 0
  | k + 1 => if f k = true then insAt f k else k + 1
theorem insAt_le (f : Nat → Bool) : ∀ k, insAt f k ≤ k
  | 0 => Nat.le_refl _
  | k + 1 => by
    simp only [insAt]
    split
    · have := insAt_le f k; omega
    · exact Nat.le_refl _
/-- a new one is put behind all that are not worse -/
def insO (c : Nat → Nat → Bool) (out : List Nat) (x : Nat) : List Nat := out.take (insAt (fun j => c (out.getD j 0) x) out.length) ++ x :: out.drop (insAt (fun j => c (out.getD j 0) x) out.length)
def rankL (c : Nat → Nat → Bool) : Nat → List Nat
  | 0 => []
  | i + 1 => insO c (rankL c i) i
theorem insO_len (c : Nat → Nat → Bool) (out : List Nat) (x : Nat) : (insO c out x).length = out.length + 1 := by
  unfold insO
  have := insAt_le (fun j => c (out.getD j 0) x) out.length
  rw [List.length_append, List.length_take, List.length_cons, List.length_drop]; omega
theorem rankL_len (c : Nat → Nat → Bool) : ∀ i, (rankL c i).length = i
  | 0 => rfl
  | i + 1 => by simp only [rankL]; rw [insO_len, rankL_len c i]
theorem insO_mem {c : Nat → Nat → Bool} {out : List Nat} {x y : Nat} (h : y ∈ insO c out x) : y = x ∨ y ∈ out := by
  unfold insO at h
  rcases List.mem_append.1 h with h | h
  · exact .inr (List.mem_of_mem_take h)
  · rcases List.mem_cons.1 h with h | h
    · exact .inl h
    · exact .inr (List.mem_of_mem_drop h)
theorem rankL_lt (c : Nat → Nat → Bool) : ∀ i, ∀ y ∈ rankL c i, y < i
  | 0, y, h => by cases h
  | i + 1, y, h => by
    rcases insO_mem h with h | h
    · omega
    · have := rankL_lt c i y h; omega
/-- the list while a new one goes ahead: it stands at place j -/
def midL (out : List Nat) (x j : Nat) : List Nat := out.take j ++ x :: out.drop j
theorem midL_len {out : List Nat} {x j : Nat} (hj : j ≤ out.length) : (midL out x j).length = out.length + 1 := by
  unfold midL; rw [List.length_append, List.length_take, List.length_cons, List.length_drop]; omega
theorem midL_at {out : List Nat} {x j : Nat} (hj : j ≤ out.length) : (midL out x j).getD j 0 = x := by
  unfold midL
  rw [List.getD_eq_getElem?_getD, List.getElem?_append_right (by rw [List.length_take]; omega), List.length_take, Nat.min_eq_left hj, Nat.sub_self]; rfl
theorem midL_before {out : List Nat} {x j : Nat} (hj : j < out.length) : (midL out x (j + 1)).getD j 0 = out.getD j 0 := by
  unfold midL
  rw [List.getD_eq_getElem?_getD, List.getElem?_append_left (by rw [List.length_take]; omega), List.getElem?_take, if_pos (by omega), ← List.getD_eq_getElem?_getD]
/-- exchanged with the one ahead -/
theorem midL_swap {out : List Nat} {x j : Nat} (hj : j < out.length) : ((midL out x (j + 1)).set (j + 1) (out.getD j 0)).set j x = midL out x j := by
  have hg : out.getD j 0 = out[j] := by simp [hj]
  apply List.ext_getElem?
  intro i
  have hl1 : (midL out x (j + 1)).length = out.length + 1 := midL_len (by omega)
  have hl0 : (midL out x j).length = out.length + 1 := midL_len (by omega)
  rw [List.getElem?_set, List.getElem?_set]
  by_cases e1 : j = i
  · subst e1
    rw [if_pos rfl, if_pos (by rw [List.length_set, hl1]; omega)]
    unfold midL
    rw [List.getElem?_append_right (by rw [List.length_take]; omega), List.length_take, Nat.min_eq_left (by omega), Nat.sub_self]; rfl
  · rw [if_neg e1]
    by_cases e2 : j + 1 = i
    · subst e2
      rw [if_pos rfl, if_pos (by rw [hl1]; omega)]
      unfold midL
      rw [List.getElem?_append_right (by rw [List.length_take]; omega), List.length_take, Nat.min_eq_left (by omega), show j + 1 - j = 1 by omega, List.getElem?_cons_succ, List.getElem?_drop, Nat.add_zero, hg, List.getElem?_eq_getElem hj]
    · rw [if_neg e2]
      unfold midL
      rcases Nat.lt_or_ge i j with h | h
      · rw [List.getElem?_append_left (by rw [List.length_take]; omega), List.getElem?_append_left (by rw [List.length_take]; omega), List.getElem?_take, List.getElem?_take, if_pos (by omega), if_pos (by omega)]
      · rw [List.getElem?_append_right (by rw [List.length_take]; omega), List.getElem?_append_right (by rw [List.length_take]; omega), List.length_take, List.length_take, Nat.min_eq_left (by omega), Nat.min_eq_left (by omega)]
        obtain ⟨d, rfl⟩ : ∃ d, i = j + 1 + 1 + d := ⟨i - (j + 1 + 1), by omega⟩
        rw [show j + 1 + 1 + d - (j + 1) = d + 1 by omega, show j + 1 + 1 + d - j = (d + 1) + 1 by omega, List.getElem?_cons_succ, List.getElem?_cons_succ, List.getElem?_drop, List.getElem?_drop]
        congr 1
        omega
theorem insO_mid (c : Nat → Nat → Bool) (out : List Nat) (x : Nat) : insO c out x = midL out x (insAt (fun j => c (out.getD j 0) x) out.length) := rfl
/-- the order of the first i, then the others -/
def ordL (c : Nat → Nat → Bool) (n i : Nat) : List Nat := rankL c i ++ (List.range n).drop i
theorem ordL_len {c : Nat → Nat → Bool} {n i : Nat} (hi : i ≤ n) : (ordL c n i).length = n := by
  unfold ordL; rw [List.length_append, rankL_len, List.length_drop, List.length_range]; omega
theorem ordL_zero (c : Nat → Nat → Bool) (n : Nat) : ordL c n 0 = List.range n := by simp [ordL, rankL]
theorem ordL_end (c : Nat → Nat → Bool) (n : Nat) : ordL c n n = rankL c n := by
  unfold ordL; rw [List.drop_eq_nil_of_le (by rw [List.length_range]; exact Nat.le_refl _), List.append_nil]
theorem ordL_mid {c : Nat → Nat → Bool} {n i : Nat} (hi : i < n) : ordL c n i = midL (rankL c i) i i ++ (List.range n).drop (i + 1) := by
  unfold ordL midL
  have h1 : (rankL c i).take i = rankL c i := List.take_of_length_le (by rw [rankL_len]; exact Nat.le_refl _)
  have h2 : (rankL c i).drop i = [] := List.drop_eq_nil_of_le (by rw [rankL_len]; exact Nat.le_refl _)
  rw [h1, h2, List.drop_eq_getElem_cons (by rw [List.length_range]; exact hi)]
  simp
theorem ordL_succ {c : Nat → Nat → Bool} {n i : Nat} : midL (rankL c i) i (insAt (fun j => c ((rankL c i).getD j 0) i) i) ++ (List.range n).drop (i + 1) = ordL c n (i + 1) := by
  unfold ordL
  simp only [rankL]
  rw [insO_mid, rankL_len]
end Go.Proofs.Ytiikkcifdhcejaa

/- A school made by own: a field of a rule is turned. -/
import Derived.Test.YtidlmbajpbbilaaZ23Fr
import Derived.Test.YtidlmbajpbbilaaZ20HlF
import Derived.Test.YtidlmbajpbbilaaZ21ChA
import Derived.Test.YtidlmbajpbbilaaZ22LwA
namespace Go.Proofs.Ytidlmbajpbbilaa
open Go.RowKit

theorem flat_mod (f : Rul → Rul) (k : Nat) (v : Value) (hk : k < 5) : ∀ (l : List Rul) (i : Nat) (hi : i < l.length), (f l[i]).cells = l[i].cells.set k v → flat Rul.cells (l.modify i f) = (flat Rul.cells l).set (i * 5 + k) v
  | [], i, hi, _ => by cases hi
  | r :: l, 0, _, h => by
    have h' : (f r).cells = r.cells.set k v := h
    have e : flat Rul.cells ((r :: l).modify 0 f) = (f r).cells ++ flat Rul.cells l := by simp [flat]
    have e2 : flat Rul.cells (r :: l) = r.cells ++ flat Rul.cells l := rfl
    rw [e, e2, h', Nat.zero_mul, Nat.zero_add]
    match k, hk with
    | 0, _ => rfl
    | 1, _ => rfl
    | 2, _ => rfl
    | 3, _ => rfl
    | 4, _ => rfl
  | r :: l, i + 1, hi, h => by
    have ih := flat_mod f k v hk l i (by simpa using hi) (by simpa using h)
    have e : flat Rul.cells ((r :: l).modify (i + 1) f) = r.cells ++ flat Rul.cells (l.modify i f) := by simp [flat]
    have e2 : flat Rul.cells (r :: l) = r.cells ++ flat Rul.cells l := rfl
    rw [e, e2, ih, show (i + 1) * 5 + k = i * 5 + k + 1 + 1 + 1 + 1 + 1 by omega]
    rfl
def Sch.mod (s : Sch) (i : Nat) (f : Rul → Rul) : Sch := { s with rules := s.rules.modify i f }
theorem mod_get (s : Sch) (i j : Nat) (f : Rul → Rul) : (s.mod i f).rules[j]? = (s.rules[j]?).map fun r => if i = j then f r else r := by
  simp only [Sch.mod, List.getElem?_modify]
  cases s.rules[j]? <;> simp
theorem MSch.putf {b : Nat} {W : World} {s : Sch} (h : MSch b W s) {i : Nat} (hi : i < s.rules.length) (f : Rul → Rul) (k : Nat) (v : Value) (hk : k < 5) (hf : (f s.rules[i]).cells = s.rules[i].cells.set k v) (hr : ∀ W, RowsOf W s.rules[i] → RowsOf W (f s.rules[i])) :
    ∃ g, s.ra = some ⟨g, 0, none⟩ ∧ b ≤ g ∧ (∃ cs, Blk W g cs 82) ∧ W.frozen? ⟨g, i * 5 + k, none⟩ = false ∧ (∃ u, W.cell? ⟨g, i * 5 + k, none⟩ = some u) ∧ MSch b (W.setCell ⟨g, i * 5 + k, none⟩ v) (s.mod i f) := by
  rcases h.row.2 with ⟨_, h0⟩ | ⟨g, cap, cur, hv, hb, hg, hnc, hcm, hcs, ht⟩
  · omega
  · have hra : s.ra = some ⟨g, 0, none⟩ ∧ s.rc = cap := by injection hv with h1 h2 h3; exact ⟨h1, h3⟩
    have gB : Blk W g cur 82 := hg
    have hlen : (flat Rul.cells s.rules).length = s.rules.length * 5 := h.row.1
    have hl2 : (s.mod i f).rules.length = s.rules.length := by simp [Sch.mod]
    have hsz : i * 5 + k < cur.size := by omega
    have hfl := flat_mod f k v hk s.rules i hi hf
    refine ⟨g, hra.1, hb, ⟨_, gB⟩, gB.free _, ⟨_, by rw [gB.cell]; exact Array.getElem?_eq_getElem hsz⟩, ⟨?_, fun r hr' => ?_, by rw [hl2]; exact h.len⟩⟩
    · rw [hl2]
      refine ⟨by show (flat Rul.cells (s.rules.modify i f)).length = _; rw [hfl, List.length_set]; exact hlen, .inr ⟨g, cap, cur.setIfInBounds (i * 5 + k) v, ?_, hb, gB.set _ _, hnc, hcm, by simpa using hcs, ?_⟩⟩
      · show Value.slice s.ra _ s.rc = _; rw [hra.1, hra.2]
      · show _ = flat Rul.cells (s.rules.modify i f)
        rw [hfl, ← ht, Array.toList_setIfInBounds, List.take_set]
    · have hkk : ∃ cs, Blk W g cs 82 := ⟨_, gB⟩
      have hput : ∀ q : Rul, RowsOf W q → RowsOf (W.setCell ⟨g, i * 5 + k, none⟩ v) q := fun q hq =>
        ⟨own_put' hq.w_ hkk (by decide) _ _, own_put' hq.u_ hkk (by decide) _ _, hq.l1, hq.l2, hq.ok⟩
      obtain ⟨j, hj, rfl⟩ := List.mem_iff_getElem.1 hr'
      have hj' : j < s.rules.length := by rw [hl2] at hj; exact hj
      have e : (s.mod i f).rules[j] = if i = j then f s.rules[j] else s.rules[j] := by
        simp only [Sch.mod, List.getElem_modify]
      rw [e]
      have h1 := hput _ (h.rows _ (List.getElem_mem hj'))
      split
      · rename_i hij; subst hij; exact hr _ h1
      · exact h1
/-- the rank of a rule is turned -/
def Rul.rk (x : Int) (r : Rul) : Rul := { r with rank := x }
theorem rk_cells (r : Rul) (x : Int) : (r.rk x).cells = r.cells.set 2 (.int .i64 x) := rfl
theorem rk_rows {W : World} {r : Rul} (x : Int) (h : RowsOf W r) : RowsOf W (r.rk x) := ⟨h.w_, h.u_, h.l1, h.l2, h.ok⟩
/-- the kinds of a rule are turned -/
def Rul.kn (x : Int) (r : Rul) : Rul := { r with kinds := x }
theorem kn_cells (r : Rul) (x : Int) : (r.kn x).cells = r.cells.set 1 (.int .i64 x) := rfl
theorem kn_rows {W : World} {r : Rul} (x : Int) (h : RowsOf W r) : RowsOf W (r.kn x) := ⟨h.w_, h.u_, h.l1, h.l2, h.ok⟩
theorem rulesB_dbl (s : Sch) : ∀ (l : List Rul) (i : Nat), rulesB s i l = true → (∀ r ∈ l, -50 ≤ r.rank ∧ r.rank ≤ 50) → rulesB s.dbl i (l.map Rul.dbl) = true
  | [], _, _, _ => rfl
  | r :: l, i, h, hr => by
    simp only [rulesB, List.map_cons, Bool.and_eq_true] at *
    refine ⟨?_, rulesB_dbl s l (i + 1) h.2 fun q hq => hr q (by simp [hq])⟩
    have h1 := h.1
    have h2 := hr r (by simp)
    simp only [ruleB, Bool.and_eq_true] at h1 ⊢
    refine ⟨⟨⟨⟨⟨h1.1.1.1.1.1, h1.1.1.1.1.2⟩, h1.1.1.1.2⟩, ?_⟩, h1.1.2⟩, h1.2⟩
    show inB (2 * r.rank) (-100) 100 = true
    exact inB_iff.2 ⟨by omega, by omega⟩
theorem schB_dbl {s : Sch} (h : schB s = true) (hr : ∀ r ∈ s.rules, -50 ≤ r.rank ∧ r.rank ≤ 50) : schB s.dbl = true := by
  simp only [schB, Bool.and_eq_true] at *
  refine ⟨?_, rulesB_dbl s s.rules 0 h.2 hr⟩
  have h1 := h.1
  simp only [baseB, dbl_len] at *
  exact h1
/-- the first i rules have ranks twice as great -/
def dblTo (i : Nat) (l : List Rul) : List Rul := (l.take i).map Rul.dbl ++ l.drop i
theorem dblTo_zero (l : List Rul) : dblTo 0 l = l := by simp [dblTo]
theorem dblTo_all (l : List Rul) : dblTo l.length l = l.map Rul.dbl := by simp [dblTo]
theorem dblTo_get (i : Nat) (l : List Rul) (j : Nat) : (dblTo i l)[j]? = (l[j]?).map fun r => if j < i then r.dbl else r := by
  unfold dblTo
  by_cases h : j < i
  · by_cases hj : j < l.length
    · rw [List.getElem?_append_left (by simp; omega), List.getElem?_map, List.getElem?_take]
      simp [h]
    · have h1 : l[j]? = none := List.getElem?_eq_none (by omega)
      rw [h1]
      exact List.getElem?_eq_none (by simp; omega)
  · by_cases hj : i ≤ l.length
    · rw [List.getElem?_append_right (by simp; omega)]
      have e : ((l.take i).map Rul.dbl).length = i := by simp; omega
      rw [e, List.getElem?_drop, show i + (j - i) = j by omega]
      simp [h]
    · have h1 : l[j]? = none := List.getElem?_eq_none (by omega)
      rw [h1]
      exact List.getElem?_eq_none (by simp; omega)
theorem sch_ext' {a b : Sch} (h1 : a.places = b.places) (h2 : a.signs = b.signs) (h3 : a.kinds = b.kinds) (h4 : a.answers = b.answers) (h5 : a.ra = b.ra) (h6 : a.rc = b.rc) (h7 : ∀ j : Nat, a.rules[j]? = b.rules[j]?) : a = b := by
  obtain ⟨p, sg, k, an, ra, rc, rs⟩ := a
  obtain ⟨p', sg', k', an', ra', rc', rs'⟩ := b
  simp only at *
  subst h1 h2 h3 h4 h5 h6
  rw [List.ext_getElem? h7]
/-- a school whose first i ranks are twice as great, without addresses -/
def plD (s : Sch) (i : Nat) : Sch := ({ s with rules := dblTo i s.rules } : Sch).pl
theorem plD_zero (s : Sch) : plD s 0 = s.pl := by simp only [plD, dblTo_zero]
theorem plD_all (s : Sch) : plD s s.rules.length = s.dbl.pl := by simp only [plD, dblTo_all]; rfl
theorem plD_get (s : Sch) (i j : Nat) : (plD s i).rules[j]? = (s.rules[j]?).map fun r => (if j < i then r.dbl else r).pl := by
  simp only [plD]
  rw [get_pl]
  show ((dblTo i s.rules)[j]?).map Rul.pl = _
  rw [dblTo_get]
  cases s.rules[j]? <;> simp
theorem plD_len {s q : Sch} {i : Nat} (h : q.pl = plD s i) : q.rules.length = s.rules.length := by
  have h1 := congrArg (fun x => x.rules.length) h
  have h2 : ∀ l : List Rul, (dblTo i l).length = l.length := fun l => by simp [dblTo]; omega
  simpa [plD, len_pl, h2] using h1
/-- the rank that rule i still has, and the next state -/
theorem plD_step {s q : Sch} {i : Nat} (h : q.pl = plD s i) (hi : i < s.rules.length) (hq : i < q.rules.length) : q.rules[i].rank = s.rules[i].rank ∧ (q.mod i (Rul.rk (2 * s.rules[i].rank))).pl = plD s (i + 1) := by
  have hg : ∀ j : Nat, (q.rules[j]?).map Rul.pl = (s.rules[j]?).map fun r => (if j < i then r.dbl else r).pl := fun j => by
    rw [← get_pl, h, plD_get]
  have h1 := hg i
  rw [List.getElem?_eq_getElem hi, List.getElem?_eq_getElem hq] at h1
  simp only [Option.map_some, Option.some.injEq, Nat.lt_irrefl, if_false] at h1
  refine ⟨by have := congrArg Rul.rank h1; exact this, ?_⟩
  have hp : q.places = s.places ∧ q.signs = s.signs ∧ q.kinds = s.kinds ∧ q.answers = s.answers := by
    have h3 := congrArg Sch.places h; have h4 := congrArg Sch.signs h; have h5 := congrArg Sch.kinds h; have h6 := congrArg Sch.answers h
    exact ⟨h3, h4, h5, h6⟩
  refine sch_ext' hp.1 hp.2.1 hp.2.2.1 hp.2.2.2 rfl rfl fun j => ?_
  rw [plD_get, get_pl, mod_get]
  have h2 := hg j
  by_cases hj : i = j
  · subst hj
    rw [List.getElem?_eq_getElem hi, List.getElem?_eq_getElem hq]
    simp only [Option.map_some, if_true, Nat.lt_succ_self]
    congr 1
    have e : q.rules[i].pl = s.rules[i].pl := h1
    have e1 : (Rul.rk (2 * s.rules[i].rank) q.rules[i]).pl = Rul.rk (2 * s.rules[i].rank) q.rules[i].pl := rfl
    rw [e1, e]; rfl
  · cases hqj : q.rules[j]? with
    | none =>
      rw [hqj] at h2
      cases hsj : s.rules[j]? with
      | none => rfl
      | some r => rw [hsj] at h2; cases h2
    | some r =>
      rw [hqj] at h2
      cases hsj : s.rules[j]? with
      | none => rw [hsj] at h2; cases h2
      | some r' =>
        rw [hsj] at h2
        simp only [Option.map_some, Option.some.injEq, if_neg hj] at h2 ⊢
        rw [h2]
        by_cases hlt : j < i
        · have : j < i + 1 := by omega
          simp [hlt, this]
        · have : ¬ j < i + 1 := by omega
          simp [hlt, this]
end Go.Proofs.Ytidlmbajpbbilaa
namespace Go.Proofs.Ytidlmbajpbbilaa
open Go.RowKit

theorem saidTo_ex {s : Sch} {L a : Nat} : ∀ n, saidTo s L n a = true → ∃ i, i < n ∧ L.testBit i = true ∧ sys s i = a
  | 0, h => by cases h
  | n + 1, h => by
    simp only [saidTo, Bool.or_eq_true, Bool.and_eq_true, beq_iff_eq] at h
    rcases h with h | ⟨h1, h2⟩
    · obtain ⟨i, h1, h2, h3⟩ := saidTo_ex n h
      exact ⟨i, by omega, h2, h3⟩
    · exact ⟨n, by omega, h1, h2.symm⟩
/-- an answer comes of a rule that speaks -/
theorem ans_spk {s : Sch} {kind : Int} {ch : List Int} {a : Nat} (h : ansOf s 0 kind ch a = true) : ∃ i, i < s.rules.length ∧ spk s kind ch i = true := by
  obtain ⟨i, h1, h2, _⟩ := saidTo_ex _ h
  refine ⟨i, h1, ?_⟩
  unfold mainN at h2
  rw [bset_testBit] at h2
  simp only [Bool.and_eq_true] at h2
  have h3 : mainS s (spk s kind ch) s.rules.length i = true := h2.2
  simp only [mainS, Bool.and_eq_true] at h3
  exact h3.1
def kdOf (s : Sch) (kind : Int) (ch : List Int) : Int := kindOf ((List.range 20).filter (ansOf s 0 kind ch))
/-- what is not silent is read as before -/
theorem ranks_same {s : Sch} {r : Rul} {kind : Int} {ch : List Int} (hr : ∀ i, i < s.rules.length → r.rank < rnk s i) (h : kdOf s kind ch ≠ 2) :
    kdOf (s.wide r) kind ch = kdOf s kind ch ∧ ansN (s.wide r) 0 kind ch = ansN s 0 kind ch ∧ mainN (s.wide r) 0 kind ch = mainN s 0 kind ch := by
  have hne : (List.range 20).filter (ansOf s 0 kind ch) ≠ [] := fun e => h (by unfold kdOf; rw [e]; rfl)
  obtain ⟨a, ha⟩ := List.exists_mem_of_ne_nil _ hne
  obtain ⟨h1, h2⟩ := wide_same s r kind ch (ans_spk (List.mem_filter.1 ha).2) hr
  refine ⟨by unfold kdOf; rw [h2], by unfold ansN; rw [h2], h1⟩
/-- what is silent is not split -/
theorem ranks_few {s : Sch} (V : Valid s) {r : Rul} {kind : Int} {ch : List Int} (hk : ∀ i, -101 < rnk s i) (h : kdOf s kind ch = 2) : kdOf (s.wide r) kind ch ≠ 3 := by
  have hno : ∀ i, i < s.rules.length → spk s kind ch i = false := fun i hi => by
    cases hs : spk s kind ch i with
    | false => rfl
    | true =>
      obtain ⟨j, hj, hja⟩ := loud (s := s) (kind := kind) (ch := ch) (fun i _ => hk i) ⟨i, hi, hs⟩
      have hlt := saidTo_lt V _ hja
      have := V.answers
      have hm : sys s j ∈ (List.range 20).filter (ansOf s 0 kind ch) := List.mem_filter.2 ⟨List.mem_range.2 (by omega), hja⟩
      have h2 := kindOf_two h
      rw [h2] at hm; cases hm
  have hf := wide_few s r kind ch hno
  intro h3
  have hl : 1 < ((List.range 20).filter (ansOf (s.wide r) 0 kind ch)).length := by
    unfold kdOf kindOf at h3
    split at h3
    · omega
    · split at h3 <;> omega
  have hnd : ((List.range 20).filter (ansOf (s.wide r) 0 kind ch)).Pairwise (· < ·) := List.pairwise_lt_range.filter _
  match hc : (List.range 20).filter (ansOf (s.wide r) 0 kind ch) with
  | [] => rw [hc] at hl; simp at hl
  | [_] => rw [hc] at hl; simp at hl
  | x :: y :: l =>
    have hx := hf x (List.mem_filter.1 (show x ∈ (List.range 20).filter (ansOf (s.wide r) 0 kind ch) by rw [hc]; simp)).2
    have hy := hf y (List.mem_filter.1 (show y ∈ (List.range 20).filter (ansOf (s.wide r) 0 kind ch) by rw [hc]; simp)).2
    rw [hc] at hnd
    have := (List.pairwise_cons.1 hnd).1 y (by simp)
    omega
/-- the set of all figures of a school -/
theorem full_eq : ∀ k < 65, (18446744073709551615 : Nat) / 2 ^ (64 - k) = 2 ^ k - 1 := by decide +kernel
theorem full_int {sg : Int} (h1 : 1 ≤ sg) (h2 : sg ≤ 64) : (18446744073709551615 : Int) / 2 ^ (64 - sg).toNat = (2 : Int) ^ sg.toNat - 1 := by
  obtain ⟨k, rfl⟩ := Int.eq_ofNat_of_zero_le (a := sg) (by omega)
  have h := full_eq k (by omega)
  have e : ((64 : Int) - (k : Int)).toNat = 64 - k := by omega
  have hp : 1 ≤ (2 : Nat) ^ k := Nat.one_le_two_pow
  rw [e, Int.toNat_natCast]
  have h3 : ((18446744073709551615 / 2 ^ (64 - k) : Nat) : Int) = ((2 ^ k - 1 : Nat) : Int) := by rw [h]
  rw [Int.natCast_ediv] at h3
  rw [Int.natCast_sub hp] at h3
  simpa using h3
theorem full_fits {sg : Int} (h1 : 1 ≤ sg) : fitsB sg ((2 : Int) ^ sg.toNat - 1) = true := by
  have hp : (0 : Int) < 2 ^ sg.toNat := Int.pow_pos (by omega)
  simp only [fitsB, decide_eq_true_eq]
  exact Int.ediv_eq_zero_of_lt (by omega) (by omega)
theorem full_u64 {sg : Int} (h1 : 1 ≤ sg) (h2 : sg ≤ 64) : IsU64 ((2 : Int) ^ sg.toNat - 1) := by
  have hp : (0 : Int) < 2 ^ sg.toNat := Int.pow_pos (by omega)
  have hn : (2 : Nat) ^ sg.toNat ≤ 2 ^ 64 := Nat.pow_le_pow_right (by omega) (by omega)
  have hi : (2 : Int) ^ sg.toNat ≤ 18446744073709551616 := by
    have h3 : ((2 ^ sg.toNat : Nat) : Int) ≤ ((2 ^ 64 : Nat) : Int) := by omega
    simpa using h3
  exact ⟨by omega, by omega⟩
theorem full_bit {sg : Int} (h1 : 1 ≤ sg) : bitB ((2 : Int) ^ sg.toNat - 1) 0 = true := by
  obtain ⟨k, hk⟩ : ∃ k, sg.toNat = k + 1 := ⟨sg.toNat - 1, by omega⟩
  unfold bitB
  rw [hk, Int.pow_succ]
  simp only [Int.toNat_zero, Int.pow_zero, Int.ediv_one, beq_iff_eq]
  omega
end Go.Proofs.Ytidlmbajpbbilaa
namespace Go.Proofs.Ytidlmbajpbbilaa
open Go.RowKit

theorem numN_snoc (sg : Int) (l : List Int) (x : Int) : numN sg (l ++ [x]) = numN sg l * sg + x := by simp [numN]
/-- every list of figures is a chart by its number -/
theorem digits_num {sg : Int} (hs : 1 ≤ sg) : ∀ (p : Nat) (l : List Int), l.length = p → (∀ x ∈ l, 0 ≤ x ∧ x < sg) → chartsN sg p ≤ 4096 → 0 ≤ numN sg l ∧ numN sg l < chartsN sg p ∧ digits sg p (numN sg l) = l
  | 0, l, hl, _, _ => by
    obtain rfl : l = [] := List.eq_nil_of_length_eq_zero hl
    exact ⟨by simp [numN], by simp [numN, chartsN], rfl⟩
  | p + 1, l, hl, hb, hc => by
    have hne : l ≠ [] := fun e => by rw [e] at hl; simp at hl
    obtain ⟨r, x, rfl⟩ : ∃ r x, l = r ++ [x] := ⟨l.dropLast, l.getLast hne, (List.dropLast_concat_getLast hne).symm⟩
    have hr : r.length = p := by simpa using hl
    have hx := hb x (by simp)
    have hbd := chartsN_bd sg hs p
    have hc2 : chartsN sg (p + 1) = min (chartsN sg p * sg) 4097 := rfl
    have hc3 : chartsN sg (p + 1) = chartsN sg p * sg := by rw [hc2] at hc ⊢; omega
    have hc4 : chartsN sg p ≤ 4096 := by
      have h1 : chartsN sg p * 1 ≤ chartsN sg p * sg := Int.mul_le_mul_of_nonneg_left hs (by omega)
      omega
    obtain ⟨h0, h1, h2⟩ := digits_num hs p r hr (fun y hy => hb y (by simp [hy])) hc4
    rw [numN_snoc]
    have hm : (numN sg r + 1) * sg ≤ chartsN sg p * sg := Int.mul_le_mul_of_nonneg_right (by omega) (by omega)
    have hm2 : (numN sg r + 1) * sg = numN sg r * sg + sg := by rw [Int.add_mul, Int.one_mul]
    have hm0 : 0 ≤ numN sg r * sg := Int.mul_nonneg h0 (by omega)
    refine ⟨by omega, by omega, ?_⟩
    have hd : (numN sg r * sg + x) / sg = numN sg r := by
      rw [Int.add_comm, Int.add_mul_ediv_right _ _ (by omega), Int.ediv_eq_zero_of_lt hx.1 hx.2, Int.zero_add]
    have hmo : (numN sg r * sg + x) % sg = x := by
      rw [Int.add_comm, Int.add_mul_emod_self_right, Int.emod_eq_of_lt hx.1 hx.2]
    simp only [digits, hd, hmo, h2]
theorem bit_fits {sg x f : Int} (hs : 0 ≤ sg) (hx : 0 ≤ x) (hf : 0 ≤ f) (h : fitsB sg x = true) (hb : bitB x f = true) : f < sg := by
  rcases Int.lt_or_le f sg with h1 | h1
  · exact h1
  · exfalso
    simp only [fitsB, decide_eq_true_eq] at h
    have hp : (0 : Int) < 2 ^ sg.toNat := Int.pow_pos (by omega)
    have h2 : x < 2 ^ sg.toNat := by
      have := Int.lt_mul_ediv_self_add (x := x) hp
      rw [h] at this; simpa using this
    rw [bitB_test hx] at hb
    have h3 : x.toNat < 2 ^ f.toNat := by
      have h4 : (2 : Nat) ^ sg.toNat ≤ 2 ^ f.toNat := Nat.pow_le_pow_right (by omega) (by omega)
      have h5 : (x.toNat : Int) < ((2 ^ sg.toNat : Nat) : Int) := by
        rw [Int.toNat_of_nonneg hx]; simpa using h2
      omega
    rw [Nat.testBit_lt_two_pow h3] at hb
    cases hb
theorem hasB_picked : ∀ (l ch : List Int), ch.length = l.length → (∀ i : Nat, (h : i < ch.length) → ∃ h' : i < l.length, bitB l[i] ch[i] = true) → hasB l ch = true
  | [], ch, _, _ => by cases ch <;> rfl
  | x :: l, [], h, _ => by simp at h
  | x :: l, f :: ch, h, hb => by
    simp only [hasB, Bool.and_eq_true]
    refine ⟨?_, hasB_picked l ch (by simpa using h) fun i hi => ?_⟩
    · obtain ⟨_, h1⟩ := hb 0 (by simp); simpa using h1
    · obtain ⟨h', h1⟩ := hb (i + 1) (by simpa using hi)
      exact ⟨by simpa using h', by simpa using h1⟩
theorem hasB_get : ∀ (l ch : List Int), ch.length = l.length → hasB l ch = true → ∀ i : Nat, (h : i < ch.length) → (h' : i < l.length) → bitB l[i] ch[i] = true
  | [], ch, h, _, i, hi, _ => by simp at h; subst h; simp at hi
  | x :: l, [], h, _, _, _, _ => by simp at h
  | x :: l, f :: ch, h, hb, 0, _, _ => by
    simp only [hasB, Bool.and_eq_true] at hb; simpa using hb.1
  | x :: l, f :: ch, h, hb, i + 1, hi, hi' => by
    simp only [hasB, Bool.and_eq_true] at hb
    have := hasB_get l ch (by simpa using h) hb.2 i (by simpa using hi) (by simpa using hi')
    simpa using this
/-- a list of figures of a region is the chart with a number, and lies in the region -/
theorem picked_chart {s : Sch} (hv : schB s = true) (V : Valid s) {sets L : List Int} (ho : ∀ x ∈ sets, IsU64 x) (hr : regB s sets = true) (hl : L.length = sets.length) (hp : Picked sets L) :
    chartB s L = true ∧ ∃ k : Nat, k < chartsC s ∧ chartL s k = L ∧ inR s sets k = true := by
  simp only [regB, Bool.and_eq_true, decide_eq_true_eq, List.all_eq_true] at hr
  have hsg := V.signs
  have hb : ∀ x ∈ L, 0 ≤ x ∧ x < s.signs := fun x hx => by
    obtain ⟨i, hi, rfl⟩ := List.mem_iff_getElem.1 hx
    obtain ⟨h', h1, h2, h3⟩ := hp i hi
    exact ⟨h1, bit_fits (by omega) (ho _ (List.getElem_mem h')).1 h1 (hr.2 _ (List.getElem_mem h')) h3⟩
  have hpl : L.length = s.places.toNat := by omega
  obtain ⟨h0, h1, h2⟩ := digits_num (by omega) s.places.toNat L hpl hb V.charts
  have hk : (((numN s.signs L).toNat : Nat) : Int) = numN s.signs L := Int.toNat_of_nonneg h0
  have hch : chartL s (((numN s.signs L).toNat : Nat) : Int) = L := by rw [hk]; exact h2
  refine ⟨?_, (numN s.signs L).toNat, by unfold chartsC; omega, hch, ?_⟩
  · simp only [chartB, Bool.and_eq_true, decide_eq_true_eq, List.all_eq_true, inB_iff]
    have := V.places
    refine ⟨by omega, fun x hx => by have := hb x hx; omega⟩
  · simp only [inR, hch]
    exact hasB_picked sets L hl fun i hi => by obtain ⟨h', h3, h4, h5⟩ := hp i hi; exact ⟨h', h5⟩
/-- broken: what a claim asks of a reading -/
def brk (tt cc : Bool) (kd : Int) : Bool := (tt && kd == 2) || (cc && kd == 3)
theorem kind_len {l : List Nat} : (kindOf l = 2 ↔ l.length = 0) ∧ (kindOf l = 1 ↔ l.length = 1) ∧ (kindOf l = 3 ↔ 1 < l.length) := by
  unfold kindOf; split
  · omega
  · split <;> omega
theorem read_len (s : Sch) (kind : Int) (k : Nat) : (bitsOf (ansN s 0 kind (chartL s k))).length = (ansL s kind k).length := by rw [bitsOf_ans, List.length_map]; rfl
theorem badC_brk {s : Sch} {q : Clm} {k : Nat} (h : inR s q.sets k = true) : badC s q k = brk q.total q.clear (kdAt s q.kind k) := by simp [badC, h, brk]
/-- how chart number k is read, whatever its list -/
theorem readR_at {s : Sch} (hv : schB s = true) {kind : Int} (hk : inB kind 0 (s.kinds - 1) = true) {ch : List Int} (hc : chartB s ch = true) {k : Nat} (e : chartL s k = ch) : ∃ RQ RM, readR s ch kind = (kdAt s kind k, RQ, RM, 0) ∧ RQ.length = (ansL s kind k).length := by
  subst e
  refine ⟨bitsOf (ansN s 0 kind (chartL s k)), bitsOf (mainN s 0 kind (chartL s k)), ?_, read_len s kind k⟩
  simp only [readR, hv, hc, hk, if_true]
  rfl
theorem chartB_at {s : Sch} (V : Valid s) (k : Nat) : chartB s (chartL s k) = true := by
  have hl : (chartL s k).length = s.places.toNat := digits_len _ _ _
  have := V.places
  simp only [chartB, Bool.and_eq_true, decide_eq_true_eq, List.all_eq_true, inB_iff]
  refine ⟨by omega, fun x hx => ?_⟩
  have := digits_bd V.signs.1 _ _ x hx
  omega
theorem firstIdx_hit {α : Type} {p : α → Bool} {l : List α} {n : Nat} (h : firstIdx p l = (n : Int)) (hn : n < l.length) : p l[n] = true := by
  have : ∀ (l : List α) (k n : Nat) (hn : n < l.length), firstFrom p l k = ((k + n : Nat) : Int) → p l[n] = true := by
    intro l
    induction l with
    | nil => intro k n hn; cases hn
    | cons x l ih =>
      intro k n hn h
      simp only [firstFrom] at h
      by_cases hp : p x = true
      · rw [if_pos hp] at h
        obtain rfl : n = 0 := by omega
        exact hp
      · rw [if_neg hp] at h
        cases n with
        | zero =>
          exfalso
          rcases Int.lt_or_le (firstFrom p l (k + 1)) 0 with h1 | h1
          · omega
          · have h2 : ∀ (l : List α) (k : Nat), 0 ≤ firstFrom p l k → (k : Int) ≤ firstFrom p l k := by
              intro l
              induction l with
              | nil => intro k h; simp [firstFrom] at h
              | cons y l ih2 =>
                intro k h
                simp only [firstFrom] at h ⊢
                split
                · omega
                · rename_i hq; rw [if_neg hq] at h; have := ih2 (k + 1) h; omega
            have := h2 l (k + 1) h1
            omega
        | succ n =>
          exact ih (k + 1) n (by simpa using hn) (by rw [h]; congr 1; omega)
  exact this l 0 n hn (by rw [Nat.zero_add]; exact h)
theorem kd_cases {s : Sch} {kind kd : Int} {k : Nat} {RQ : List Int} (h : kd = kdAt s kind k) (hl : RQ.length = (ansL s kind k).length) : (kd = 2 ∧ RQ.length = 0) ∨ (kd = 1 ∧ RQ.length = 1) ∨ (kd = 3 ∧ 1 < RQ.length) := by
  obtain ⟨h1, h2, h3⟩ := kind_len (l := ansL s kind k)
  rw [h, hl]
  rcases kindOf_cases (ansL s kind k) with e | e | e
  · exact .inl ⟨e, h1.1 e⟩
  · exact .inr (.inr ⟨e, h3.1 e⟩)
  · exact .inr (.inl ⟨e, h2.1 e⟩)
theorem keeps_err {s : Sch} {q : Clm} {x1 x2 er : Int} (h : keepsR s [q] = (x1, x2, er)) (he : er ≠ 0) : x1 = 0 ∧ x2 = 0 := by
  unfold keepsR at h
  split at h
  · split at h
    · split at h
      · simp only [Prod.mk.injEq] at h; exact absurd h.2.2.symm he
      · simp only [Prod.mk.injEq] at h; exact ⟨h.1.symm, h.2.1.symm⟩
    · simp only [Prod.mk.injEq] at h; exact ⟨h.1.symm, h.2.1.symm⟩
  · simp only [Prod.mk.injEq] at h; exact ⟨h.1.symm, h.2.1.symm⟩
theorem keeps_one {s : Sch} {q : Clm} {x1 x2 er : Int} (h : keepsR s [q] = (x1, x2, er)) (he : er = 0) : schB s = true ∧ inB q.kind 0 (s.kinds - 1) = true ∧ regB s q.sets = true ∧
    ((∃ k : Nat, x1 = 0 ∧ x2 = (k : Int) ∧ k < chartsC s ∧ inR s q.sets k = true ∧ brk q.total q.clear (kdAt s q.kind k) = true) ∨ (x1 = -1 ∧ x2 = -1 ∧ ∀ k, k < chartsC s → badC s q k = false)) := by
  subst he
  unfold keepsR at h
  split at h
  · rename_i hv
    split at h
    · split at h
      · rename_i hE
        have hc := claimsE_zero hE q (by simp)
        refine ⟨hv, hc.1, hc.2, ?_⟩
        simp only [keepsI, Prod.mk.injEq] at h
        by_cases hf : 0 ≤ firstN (badC s q) (chartsC s)
        · rw [if_pos hf] at h
          obtain ⟨k, hk, he⟩ := firstIdx_lt (p := badC s q) (l := List.range (chartsC s)) hf
          rw [List.length_range] at hk
          have he' : firstN (badC s q) (chartsC s) = (k : Int) := he
          have hb : badC s q k = true := by
            cases hb : badC s q k with
            | true => rfl
            | false =>
              exfalso
              have h1 := firstIdx_hit (p := badC s q) (l := List.range (chartsC s)) he (by simpa using hk)
              simp [hb] at h1
          have hin : inR s q.sets k = true := by
            unfold badC at hb; simp only [Bool.and_eq_true] at hb; exact hb.1
          refine .inl ⟨k, h.1.symm, by rw [← h.2.1, he'], hk, hin, ?_⟩
          rw [← badC_brk hin]; exact hb
        · rw [if_neg hf] at h
          refine .inr ⟨h.1.symm, h.2.1.symm, fun k hk => ?_⟩
          have h1 : firstN (badC s q) (chartsC s) = -1 := firstIdx_neg hf
          exact cnt_zero.1 (firstN_neg.1 h1) k hk
      · simp only [Prod.mk.injEq] at h
        rename_i hE
        exact absurd h.2.2 hE
    · simp only [Prod.mk.injEq] at h; exact absurd h.2.2 (by decide)
  · simp only [Prod.mk.injEq] at h; exact absurd h.2.2 (by decide)
theorem chartsC_i {s : Sch} (V : Valid s) : ((chartsC s : Nat) : Int) = chartsN s.signs s.places.toNat := by
  have := chartsN_bd s.signs V.signs.1 s.places.toNat
  unfold chartsC; omega
end Go.Proofs.Ytidlmbajpbbilaa
namespace Go.Proofs.Ytidlmbajpbbilaa
open Go.RowKit

/-- a school made by own of s, its first i ranks twice as great -/
structure Dbl (s : Sch) (A : Option Addr) (c b i : Nat) (W : World) (q : Sch) : Prop where
  a : q.ra = A
  cc : q.rc = c
  pl : q.pl = plD s i
  m : MSch b W q
theorem Dbl.below {s q : Sch} {A : Option Addr} {c b i : Nat} {W W' : World} (h : Dbl s A c b i W q) (hb : Below W.heap.size W W') : Dbl s A c b i W' q := ⟨h.a, h.cc, h.pl, h.m.below hb⟩
theorem Dbl.len {s q : Sch} {A : Option Addr} {c b i : Nat} {W : World} (h : Dbl s A c b i W q) : q.rules.length = s.rules.length := plD_len h.pl
theorem MSch.nil {b : Nat} {W : World} {q : Sch} (h : MSch b W q) : q.nil0 := by
  refine ⟨fun e => ?_, fun r hr => (h.rows r hr).nil⟩
  rcases h.row.2 with ⟨hv, _⟩ | ⟨g, cap, cur, hv, _⟩
  · injection hv
  · rw [e] at hv; cases hv
theorem dbl_of {s q : Sch} {b : Nat} {W : World} (h : q.pl = s.pl) (hm : MSch b W q) : Dbl s q.ra q.rc b 0 W q := ⟨rfl, rfl, by rw [plD_zero, h], hm⟩
theorem pl_scv {s q : Sch} {A : Option Addr} {c : Nat} (h1 : q.places = s.places) (h2 : q.signs = s.signs) (h3 : q.kinds = s.kinds) (h4 : q.answers = s.answers) (h5 : q.rules.length = s.rules.length) (ha : q.ra = A) (hc : q.rc = c) :
    scv q q.rv = .agg #[.int .i64 s.places, .int .i64 s.signs, .int .i64 s.kinds, .int .i64 s.answers, .slice A s.rules.length c] := by
  have e : q.rv = .slice A s.rules.length c := by show Value.slice q.ra q.rules.length q.rc = _; rw [ha, hc, h5]
  show Value.agg #[.int .i64 q.places, .int .i64 q.signs, .int .i64 q.kinds, .int .i64 q.answers, q.rv] = _
  rw [h1, h2, h3, h4, e]
theorem Dbl.scv {s q : Sch} {A : Option Addr} {c b i : Nat} {W : World} (h : Dbl s A c b i W q) : Go.Proofs.Ytidlmbajpbbilaa.scv q q.rv = .agg #[.int .i64 s.places, .int .i64 s.signs, .int .i64 s.kinds, .int .i64 s.answers, .slice A s.rules.length c] := by
  have h3 := congrArg Sch.places h.pl; have h4 := congrArg Sch.signs h.pl; have h5 := congrArg Sch.kinds h.pl; have h6 := congrArg Sch.answers h.pl
  exact pl_scv h3 h4 h5 h6 h.len h.a h.cc
theorem Dbl.put {s q : Sch} {A : Option Addr} {c b i : Nat} {W : World} (h : Dbl s A c b i W q) (hi : i < s.rules.length) :
    ∃ g q', A = some ⟨g, 0, none⟩ ∧ b ≤ g ∧ (∃ cs, Blk W g cs 82) ∧ W.frozen? ⟨g, i * 5 + 2, none⟩ = false ∧ W.cell? ⟨g, i * 5 + 2, none⟩ = some (.int .i64 s.rules[i].rank) ∧ Dbl s A c b (i + 1) (W.setCell ⟨g, i * 5 + 2, none⟩ (.int .i64 (2 * s.rules[i].rank))) q' := by
  have hq : i < q.rules.length := by rw [h.len]; exact hi
  obtain ⟨hk, hp⟩ := plD_step h.pl hi hq
  obtain ⟨g, h1, h2, h3, h4, h5, h6⟩ := h.m.putf hq (Rul.rk (2 * s.rules[i].rank)) 2 (.int .i64 (2 * s.rules[i].rank)) (by omega) (rk_cells _ _) (fun W hW => rk_rows _ hW)
  obtain ⟨ab, ao, hra, _, hcell⟩ := h.m.reads.1.at_ (k := i) (fun _ => rfl) hq
  have hc : W.cell? ⟨ab, ao + i * 5 + 2, none⟩ = some (.int .i64 q.rules[i].rank) := hcell 2 _ rfl
  have e : some (⟨g, 0, none⟩ : Addr) = some ⟨ab, ao, none⟩ := by rw [← h1, hra]
  have e1 : g = ab ∧ 0 = ao := by injection e with e; injection e with e1 e2; exact ⟨e1, e2⟩
  obtain ⟨rfl, rfl⟩ := e1
  rw [Nat.zero_add, hk] at hc
  exact ⟨g, q.mod i (Rul.rk (2 * s.rules[i].rank)), by rw [← h.a, h1], h2, h3, h4, hc, ⟨h.a, h.cc, hp, h6⟩⟩
/-- the least of 100 and the first ranks -/
def leastT (s : Sch) : Nat → Int
  | 0 => 100
  | i + 1 => if leastT s i ≤ rnk s i then leastT s i else rnk s i
/-- one of the first ranks is too great to be doubled -/
def farT (s : Sch) : Nat → Bool
  | 0 => false
  | i + 1 => (farT s i || decide (50 < rnk s i)) || decide (rnk s i < -50)
theorem rnk_at {s : Sch} {i : Nat} (hi : i < s.rules.length) : rnk s i = s.rules[i].rank := by simp only [rnk, List.getElem?_eq_getElem hi]
theorem rnk_bd {s : Sch} (V : Valid s) {i : Nat} (hi : i < s.rules.length) : -100 ≤ rnk s i ∧ rnk s i ≤ 100 := by
  rw [rnk_at hi]; exact (V.rule i hi).rank
theorem least_le (s : Sch) : ∀ n i, i < n → leastT s n ≤ rnk s i
  | 0, i, h => by omega
  | n + 1, i, h => by
    have e : leastT s (n + 1) = if leastT s n ≤ rnk s n then leastT s n else rnk s n := rfl
    rw [e]
    rcases Nat.lt_succ_iff_lt_or_eq.1 h with h1 | h1
    · have := least_le s n i h1; split <;> omega
    · subst h1; split <;> omega
theorem least_bd {s : Sch} (V : Valid s) : ∀ n, n ≤ s.rules.length → -100 ≤ leastT s n ∧ leastT s n ≤ 100
  | 0, _ => by simp [leastT]
  | n + 1, h => by
    have e : leastT s (n + 1) = if leastT s n ≤ rnk s n then leastT s n else rnk s n := rfl
    have h1 := least_bd V n (by omega)
    have h2 := rnk_bd V (show n < s.rules.length by omega)
    rw [e]; split <;> omega
theorem far_no {s : Sch} : ∀ n, farT s n = false → ∀ i, i < n → -50 ≤ rnk s i ∧ rnk s i ≤ 50
  | 0, _, i, h => by omega
  | n + 1, hf, i, h => by
    simp only [farT, Bool.or_eq_false_iff, decide_eq_false_iff_not] at hf
    rcases Nat.lt_succ_iff_lt_or_eq.1 h with h1 | h1
    · exact far_no n hf.1.1 i h1
    · subst h1; omega
theorem rnk_out {s : Sch} {i : Nat} (h : s.rules.length ≤ i) : rnk s i = 0 := by simp only [rnk, List.getElem?_eq_none h]
/-- with all ranks twice as great no chart is read differently -/
theorem differ_dbl {s : Sch} (hv : schB s = true) (V : Valid s) (hf : farT s s.rules.length = false) {k : Nat} (hk : (k : Int) < s.kinds) : differR s s.dbl k = (-1, 0) := by
  have hb := far_no _ hf
  have hall : ∀ i, -50 ≤ rnk s i := fun i => by
    by_cases h : i < s.rules.length
    · exact (hb i h).1
    · rw [rnk_out (by omega)]; omega
  have hd : schB s.dbl = true := schB_dbl hv fun r hr => by
    obtain ⟨i, hi, rfl⟩ := List.mem_iff_getElem.1 hr
    have := hb i hi
    rw [rnk_at hi] at this; exact this
  have hkb : inB (k : Int) 0 (s.kinds - 1) = true := inB_iff.2 ⟨by omega, by omega⟩
  have e1 : s.dbl.places = s.places := rfl
  have e2 : s.dbl.signs = s.signs := rfl
  have e3 : s.dbl.kinds = s.kinds := rfl
  simp only [differR, hv, hd, e1, e2, e3, hkb, Bool.and_self, if_true, beq_self_eq_true]
  rw [firstN_none fun j _ => by rw [ansN_dbl s hall]; simp]
theorem df_any {s s' q' : Sch} {k : Nat} (hv : schB s = true) (V : Valid s) (hf : farT s s.rules.length = false) (hk : (k : Int) < s.kinds) (hp : s'.pl = s.pl) (hq : q'.pl = s.dbl.pl) {W0 W1 W : World} (hr : s'.reads W0 W0.heap.size) (h0 : Below W0.heap.size W0 W) (hr1 : q'.reads W1 W1.heap.size) (h1 : Below W1.heap.size W1 W) :
    Calls Try.prog 34 #[scv s' s'.rv, scv q' q'.rv, .int .i64 k] W fun e w' => e = .returned (.tuple #[.int .i64 (-1), .int .i64 0]) ∧ Below W.heap.size W w' := by
  have h := differ_any s' q' k W ((hr.below h0).more h0.size) ((hr1.below h1).more h1.size)
  rw [differ_cong' hp hq, differ_dbl hv V hf hk] at h
  exact h
/-- the rule more -/
def moreR (m : Rul) (L : Int) : Rul := ⟨none, 0, m.when_, m.kinds, L - 1, none, 0, [], m.says⟩
/-- the school with a rule more, made by own -/
structure Wide (s : Sch) (r : Rul) (A : Option Addr) (c b : Nat) (W : World) (q : Sch) : Prop where
  a : q.ra = A
  cc : q.rc = c
  pl : q.pl = (s.wide r).pl
  m : MSch b W q
theorem Wide.below {s q : Sch} {r : Rul} {A : Option Addr} {c b : Nat} {W W' : World} (h : Wide s r A c b W q) (hb : Below W.heap.size W W') : Wide s r A c b W' q := ⟨h.a, h.cc, h.pl, h.m.below hb⟩
theorem Wide.len {s q : Sch} {r : Rul} {A : Option Addr} {c b : Nat} {W : World} (h : Wide s r A c b W q) : q.rules.length = s.rules.length + 1 := by
  have h1 := congrArg (fun x => x.rules.length) h.pl
  simpa [len_pl, wide_len] using h1
theorem Wide.scv {s q : Sch} {r : Rul} {A : Option Addr} {c b : Nat} {W : World} (h : Wide s r A c b W q) : Go.Proofs.Ytidlmbajpbbilaa.scv q q.rv = .agg #[.int .i64 s.places, .int .i64 s.signs, .int .i64 s.kinds, .int .i64 s.answers, .slice A (s.rules.length + 1) c] := by
  have h3 := congrArg Sch.places h.pl; have h4 := congrArg Sch.signs h.pl; have h5 := congrArg Sch.kinds h.pl; have h6 := congrArg Sch.answers h.pl
  have := pl_scv (s := s.wide r) (q := q) h3 h4 h5 h6 (by rw [h.len, wide_len]) h.a h.cc
  rw [wide_len] at this
  exact this
theorem wide_of {s q : Sch} {m : Rul} {L : Int} {A A1 : Option Addr} {c c1 b : Nat} {W : World} (hp : q.pl = s.pl) (hm : MSch b W { q with ra := A, rc := c, rules := q.rules ++ [⟨A1, c1, m.when_, m.kinds, L - 1, none, 0, [], m.says⟩] }) :
    Wide s (moreR m L) A c b W { q with ra := A, rc := c, rules := q.rules ++ [⟨A1, c1, m.when_, m.kinds, L - 1, none, 0, [], m.says⟩] } := by
  refine ⟨rfl, rfl, ?_, hm⟩
  have h1 := congrArg Sch.rules hp
  have h3 := congrArg Sch.places hp; have h4 := congrArg Sch.signs hp; have h5 := congrArg Sch.kinds hp; have h6 := congrArg Sch.answers hp
  simp only [Sch.pl] at h1 h3 h4 h5 h6
  simp only [Sch.pl, Sch.wide, List.map_append, h1, h3, h4, h5, h6]
  rfl
/-- what is read of a chart with the school and with the wider one -/
structure RankF (s : Sch) (r : Rul) (kind : Int) (ch : List Int) (kd kd' : Int) (RQ RM RQ' RM' : List Int) : Prop where
  r1 : readR s ch kind = (kd, RQ, RM, 0)
  r2 : readR (s.wide r) ch kind = (kd', RQ', RM', 0)
  l1 : RQ.length ≤ 1000000
  l2 : RM.length ≤ 1000000
  h : kd ≠ 2 ∧ kd' = kd ∧ RQ' = RQ ∧ RM' = RM ∨ kd = 2 ∧ kd' ≠ 3
theorem rank_facts {s : Sch} {m : Rul} (hv : schB s = true) (V : Valid s) (hw : schB (s.wide (moreR m (leastT s s.rules.length))) = true) {ch : List Int} (hc : chartB s ch = true) {k : Nat} (hk : (k : Int) < s.kinds) :
    ∃ kd kd' RQ RM RQ' RM', RankF s (moreR m (leastT s s.rules.length)) k ch kd kd' RQ RM RQ' RM' := by
  have hkb : inB (k : Int) 0 (s.kinds - 1) = true := inB_iff.2 ⟨by omega, by omega⟩
  have hcw : chartB (s.wide (moreR m (leastT s s.rules.length))) ch = true := hc
  have hkw : inB (k : Int) 0 ((s.wide (moreR m (leastT s s.rules.length))).kinds - 1) = true := hkb
  have hr : ∀ i, i < s.rules.length → (moreR m (leastT s s.rules.length)).rank < rnk s i := fun i hi => by
    have := least_le s _ i hi
    show leastT s s.rules.length - 1 < _
    omega
  have hlo : ∀ i, -101 < rnk s i := fun i => by
    by_cases h : i < s.rules.length
    · have := rnk_bd V h; omega
    · rw [rnk_out (by omega)]; omega
  refine ⟨kdOf s k ch, kdOf (s.wide (moreR m (leastT s s.rules.length))) k ch, _, _, _, _, ⟨by simp only [readR, hv, hc, hkb, if_true]; rfl, by simp only [readR, hw, hcw, hkw, if_true]; rfl, bitsOf_len _, bitsOf_len _, ?_⟩⟩
  by_cases h : kdOf s k ch = 2
  · exact .inr ⟨h, ranks_few V hlo h⟩
  · obtain ⟨h1, h2, h3⟩ := ranks_same hr h
    exact .inl ⟨h, h1, by rw [h2], by rw [h3]⟩
theorem Blk.grown {W W' : World} {row : Option Nat} {k t : Nat} {cs : Array Value} (h : Blk W k cs t) (hg : W.grownBy W' row) (hne : some k ≠ row) : Blk W' k cs t := by
  have := hg.block k h.lt hne
  show W'.heap[k]? = _
  rw [this]; exact h
theorem own_ne_blk {W : World} {b e s n k t : Nat} {v : Value} {xs : List Value} {cs : Array Value} (h : W.ownsRow b e s v n xs) (hk : Blk W k cs t) (hne : e ≠ t) : some k ≠ v.ownBlock := by
  rcases h.2 with ⟨rfl, _⟩ | ⟨g, cap, cur, rfl, _, hg, _⟩
  · simp [Value.ownBlock]
  · intro e1
    have e2 : k = g := by simpa [Value.ownBlock] using e1
    subst e2
    have h1 : W.heap[k]? = some _ := hk
    rw [hg] at h1; injection h1 with h1; injection h1 with _ h1 _; exact hne h1
/-- a rule more is appended to a school made by own -/
theorem MSch.app {b gg cap : Nat} {W W5 : World} {q : Sch} {r : Rul} (h : MSch b W q) (hb5 : W5.ownsRow b 82 5 (.slice (some ⟨gg, 0, none⟩) (q.rules.length + 1) cap) (q.rules.length + 1) (flat Rul.cells q.rules ++ r.cells))
    (hg : W.grownBy W5 (Value.slice q.ra q.rules.length q.rc).ownBlock) (hr : RowsOf W r) (hl : q.rules.length + 1 ≤ 1000) : MSch b W5 { q with ra := some ⟨gg, 0, none⟩, rc := cap, rules := q.rules ++ [r] } := by
  have hA : ∀ r' : Rul, RowsOf W r' → RowsOf W5 r' := fun r' hr' => hr'.grown hg fun e v he ⟨s', n', xs', h'⟩ => ownsRow_apart h' h.row (by rcases he with rfl | rfl <;> decide)
  refine ⟨?_, fun r' hr' => ?_, by simpa using hl⟩
  · show W5.ownsRow b 82 5 (.slice (some ⟨gg, 0, none⟩) (q.rules ++ [r]).length cap) (q.rules ++ [r]).length (flat Rul.cells (q.rules ++ [r]))
    have e1 : (q.rules ++ [r]).length = q.rules.length + 1 := by simp
    have e2 : flat Rul.cells (q.rules ++ [r]) = flat Rul.cells q.rules ++ r.cells := by simp [flat]
    rw [e1, e2]; exact hb5
  · replace hr' : r' ∈ q.rules ++ [r] := hr'
    rcases List.mem_append.1 hr' with h1 | h1
    · exact hA _ (h.rows _ h1)
    · obtain rfl : r' = r := by simpa using h1
      exact hA _ hr
theorem MSch.putS {b k t : Nat} {W : World} {q : Sch} (h : MSch b W q) (hk : ∃ cs, Blk W k cs t) (h1 : 82 ≠ t) (h2 : 103 ≠ t) (h3 : 3 ≠ t) (j : Nat) (v : Value) : MSch b (W.setCell ⟨k, j, none⟩ v) q :=
  ⟨own_put' h.row hk h1 _ _, fun r hr => ⟨own_put' (h.rows r hr).w_ hk h2 _ _, own_put' (h.rows r hr).u_ hk h3 _ _, (h.rows r hr).l1, (h.rows r hr).l2, (h.rows r hr).ok⟩, h.len⟩
/-- own of a school made by own -/
theorem own_q {q : Sch} {b : Nat} {W0 : World} {X : Value} (hq : MSch b W0 q) (hs : scv q q.rv = X) (W : World) (hW : Below W0.heap.size W0 W) : Calls Try.prog 17 #[X] W (RetOwnN q W) := by
  have h := own_new q W (hq.below hW).reads hq.nil hq.len
  rw [hs] at h; exact h
/-- the set of all figures, as often as there are places -/
def fullL (s : Sch) (n : Nat) : List Int := List.replicate n ((2 : Int) ^ s.signs.toNat - 1)
theorem fullL_succ (s : Sch) (n : Nat) : fullL s (n + 1) = fullL s n ++ [(2 : Int) ^ s.signs.toNat - 1] := List.replicate_succ'
theorem fullL_u64 {s : Sch} (V : Valid s) (n : Nat) : ∀ x ∈ fullL s n, IsU64 x := fun x hx => by
  obtain rfl := List.eq_of_mem_replicate hx
  exact full_u64 V.signs.1 V.signs.2
theorem fullL_reg {s : Sch} (V : Valid s) : regB s (fullL s s.places.toNat) = true := by
  have := V.places
  simp only [regB, Bool.and_eq_true, decide_eq_true_eq, List.all_eq_true]
  refine ⟨by simp [fullL]; omega, fun x hx => ?_⟩
  obtain rfl := List.eq_of_mem_replicate hx
  exact full_fits V.signs.1
/-- the chart that is taken is a chart -/
theorem full_chart {s : Sch} (hv : schB s = true) (V : Valid s) {A : Option Addr} {c : Nat} {b : Bool} {L : List Int}
    (hy : b = true → L.length = (fullL s s.places.toNat).length ∧ Picked (fullL s s.places.toNat) L) (hn : b = false → L = [] ∧ ∃ x ∈ fullL s s.places.toNat, ∀ f : Nat, f < 64 → bitB x (f : Int) = false) : b = true ∧ L.length ≤ 1000000 ∧ chartB s L = true := by
  cases b with
  | false =>
    obtain ⟨_, x, hx, h⟩ := hn rfl
    obtain rfl := List.eq_of_mem_replicate hx
    have := h 0 (by omega)
    rw [show ((0 : Nat) : Int) = 0 from rfl, full_bit V.signs.1] at this
    cases this
  | true =>
    obtain ⟨h1, h2⟩ := hy rfl
    have := V.places
    have h3 : (fullL s s.places.toNat).length = s.places.toNat := by simp [fullL]
    exact ⟨rfl, by omega, (picked_chart hv V (fullL_u64 V _) (fullL_reg V) h1 h2).1⟩
end Go.Proofs.Ytidlmbajpbbilaa

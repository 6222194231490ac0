/- The law SchoolTotal: the plain law. -/
import Derived.Test.YtidlmbajpbbilaaZ20HlF
import Derived.Test.YtidlmbajpbbilaaZ21ChA
import Derived.Test.YtidlmbajpbbilaaZ25LwA
import Derived.Test.YtidlmbajpbbilaaZ24CmB
import Derived.Deep.RegionHeldLaw
import Derived.Deep.AppendLies
namespace Go.Proofs.Ytidlmbajpbbilaa
open Go.RowKit

theorem numN_snoc (sg : Int) (l : List Int) (x : Int) : numN sg (l ++ [x]) = numN sg l * sg + x := by simp [numN]
/-- every list of figures is a chart by its number -/
theorem digits_num {sg : Int} (hs : 1 ≤ sg) : ∀ (p : Nat) (l : List Int), l.length = p → (∀ x ∈ l, 0 ≤ x ∧ x < sg) → chartsN sg p ≤ 4096 → 0 ≤ numN sg l ∧ numN sg l < chartsN sg p ∧ digits sg p (numN sg l) = l
  | 0, l, hl, _, _ => by
    obtain rfl : l = [] := List.eq_nil_of_length_eq_zero hl
    exact ⟨by simp [numN], by simp [numN, chartsN], rfl⟩
  | p + 1, l, hl, hb, hc => by
    have hne : l ≠ [] := fun e => by rw [e] at hl; simp at hl
    obtain ⟨r, x, rfl⟩ : ∃ r x, l = r ++ [x] := ⟨l.dropLast, l.getLast hne, (List.dropLast_concat_getLast hne).symm⟩
    have hr : r.length = p := by simpa using hl
    have hx := hb x (by simp)
    have hbd := chartsN_bd sg hs p
    have hc2 : chartsN sg (p + 1) = min (chartsN sg p * sg) 4097 := rfl
    have hc3 : chartsN sg (p + 1) = chartsN sg p * sg := by rw [hc2] at hc ⊢; omega
    have hc4 : chartsN sg p ≤ 4096 := by
      have h1 : chartsN sg p * 1 ≤ chartsN sg p * sg := Int.mul_le_mul_of_nonneg_left hs (by omega)
      omega
    obtain ⟨h0, h1, h2⟩ := digits_num hs p r hr (fun y hy => hb y (by simp [hy])) hc4
    rw [numN_snoc]
    have hm : (numN sg r + 1) * sg ≤ chartsN sg p * sg := Int.mul_le_mul_of_nonneg_right (by omega) (by omega)
    have hm2 : (numN sg r + 1) * sg = numN sg r * sg + sg := by rw [Int.add_mul, Int.one_mul]
    have hm0 : 0 ≤ numN sg r * sg := Int.mul_nonneg h0 (by omega)
    refine ⟨by omega, by omega, ?_⟩
    have hd : (numN sg r * sg + x) / sg = numN sg r := by
      rw [Int.add_comm, Int.add_mul_ediv_right _ _ (by omega), Int.ediv_eq_zero_of_lt hx.1 hx.2, Int.zero_add]
    have hmo : (numN sg r * sg + x) % sg = x := by
      rw [Int.add_comm, Int.add_mul_emod_self_right, Int.emod_eq_of_lt hx.1 hx.2]
    simp only [digits, hd, hmo, h2]
theorem bit_fits {sg x f : Int} (hs : 0 ≤ sg) (hx : 0 ≤ x) (hf : 0 ≤ f) (h : fitsB sg x = true) (hb : bitB x f = true) : f < sg := by
  rcases Int.lt_or_le f sg with h1 | h1
  · exact h1
  · exfalso
    simp only [fitsB, decide_eq_true_eq] at h
    have hp : (0 : Int) < 2 ^ sg.toNat := Int.pow_pos (by omega)
    have h2 : x < 2 ^ sg.toNat := by
      have := Int.lt_mul_ediv_self_add (x := x) hp
      rw [h] at this; simpa using this
    rw [bitB_test hx] at hb
    have h3 : x.toNat < 2 ^ f.toNat := by
      have h4 : (2 : Nat) ^ sg.toNat ≤ 2 ^ f.toNat := Nat.pow_le_pow_right (by omega) (by omega)
      have h5 : (x.toNat : Int) < ((2 ^ sg.toNat : Nat) : Int) := by
        rw [Int.toNat_of_nonneg hx]; simpa using h2
      omega
    rw [Nat.testBit_lt_two_pow h3] at hb
    cases hb
theorem hasB_picked : ∀ (l ch : List Int), ch.length = l.length → (∀ i : Nat, (h : i < ch.length) → ∃ h' : i < l.length, bitB l[i] ch[i] = true) → hasB l ch = true
  | [], ch, _, _ => by cases ch <;> rfl
  | x :: l, [], h, _ => by simp at h
  | x :: l, f :: ch, h, hb => by
    simp only [hasB, Bool.and_eq_true]
    refine ⟨?_, hasB_picked l ch (by simpa using h) fun i hi => ?_⟩
    · obtain ⟨_, h1⟩ := hb 0 (by simp); simpa using h1
    · obtain ⟨h', h1⟩ := hb (i + 1) (by simpa using hi)
      exact ⟨by simpa using h', by simpa using h1⟩
theorem hasB_get : ∀ (l ch : List Int), ch.length = l.length → hasB l ch = true → ∀ i : Nat, (h : i < ch.length) → (h' : i < l.length) → bitB l[i] ch[i] = true
  | [], ch, h, _, i, hi, _ => by simp at h; subst h; simp at hi
  | x :: l, [], h, _, _, _, _ => by simp at h
  | x :: l, f :: ch, h, hb, 0, _, _ => by
    simp only [hasB, Bool.and_eq_true] at hb; simpa using hb.1
  | x :: l, f :: ch, h, hb, i + 1, hi, hi' => by
    simp only [hasB, Bool.and_eq_true] at hb
    have := hasB_get l ch (by simpa using h) hb.2 i (by simpa using hi) (by simpa using hi')
    simpa using this
/-- a list of figures of a region is the chart with a number, and lies in the region -/
theorem picked_chart {s : Sch} (hv : schB s = true) (V : Valid s) {sets L : List Int} (ho : ∀ x ∈ sets, IsU64 x) (hr : regB s sets = true) (hl : L.length = sets.length) (hp : Picked sets L) :
    chartB s L = true ∧ ∃ k : Nat, k < chartsC s ∧ chartL s k = L ∧ inR s sets k = true := by
  simp only [regB, Bool.and_eq_true, decide_eq_true_eq, List.all_eq_true] at hr
  have hsg := V.signs
  have hb : ∀ x ∈ L, 0 ≤ x ∧ x < s.signs := fun x hx => by
    obtain ⟨i, hi, rfl⟩ := List.mem_iff_getElem.1 hx
    obtain ⟨h', h1, h2, h3⟩ := hp i hi
    exact ⟨h1, bit_fits (by omega) (ho _ (List.getElem_mem h')).1 h1 (hr.2 _ (List.getElem_mem h')) h3⟩
  have hpl : L.length = s.places.toNat := by omega
  obtain ⟨h0, h1, h2⟩ := digits_num (by omega) s.places.toNat L hpl hb V.charts
  have hk : (((numN s.signs L).toNat : Nat) : Int) = numN s.signs L := Int.toNat_of_nonneg h0
  have hch : chartL s (((numN s.signs L).toNat : Nat) : Int) = L := by rw [hk]; exact h2
  refine ⟨?_, (numN s.signs L).toNat, by unfold chartsC; omega, hch, ?_⟩
  · simp only [chartB, Bool.and_eq_true, decide_eq_true_eq, List.all_eq_true, inB_iff]
    have := V.places
    refine ⟨by omega, fun x hx => by have := hb x hx; omega⟩
  · simp only [inR, hch]
    exact hasB_picked sets L hl fun i hi => by obtain ⟨h', h3, h4, h5⟩ := hp i hi; exact ⟨h', h5⟩
/-- broken: what a claim asks of a reading -/
def brk (tt cc : Bool) (kd : Int) : Bool := (tt && kd == 2) || (cc && kd == 3)
theorem kind_len {l : List Nat} : (kindOf l = 2 ↔ l.length = 0) ∧ (kindOf l = 1 ↔ l.length = 1) ∧ (kindOf l = 3 ↔ 1 < l.length) := by
  unfold kindOf; split
  · omega
  · split <;> omega
theorem read_len (s : Sch) (kind : Int) (k : Nat) : (bitsOf (ansN s 0 kind (chartL s k))).length = (ansL s kind k).length := by rw [bitsOf_ans, List.length_map]; rfl
theorem badC_brk {s : Sch} {q : Clm} {k : Nat} (h : inR s q.sets k = true) : badC s q k = brk q.total q.clear (kdAt s q.kind k) := by simp [badC, h, brk]
/-- how chart number k is read, whatever its list -/
theorem readR_at {s : Sch} (hv : schB s = true) {kind : Int} (hk : inB kind 0 (s.kinds - 1) = true) {ch : List Int} (hc : chartB s ch = true) {k : Nat} (e : chartL s k = ch) : ∃ RQ RM, readR s ch kind = (kdAt s kind k, RQ, RM, 0) ∧ RQ.length = (ansL s kind k).length := by
  subst e
  refine ⟨bitsOf (ansN s 0 kind (chartL s k)), bitsOf (mainN s 0 kind (chartL s k)), ?_, read_len s kind k⟩
  simp only [readR, hv, hc, hk, if_true]
  rfl
theorem chartB_at {s : Sch} (V : Valid s) (k : Nat) : chartB s (chartL s k) = true := by
  have hl : (chartL s k).length = s.places.toNat := digits_len _ _ _
  have := V.places
  simp only [chartB, Bool.and_eq_true, decide_eq_true_eq, List.all_eq_true, inB_iff]
  refine ⟨by omega, fun x hx => ?_⟩
  have := digits_bd V.signs.1 _ _ x hx
  omega
theorem firstIdx_hit {α : Type} {p : α → Bool} {l : List α} {n : Nat} (h : firstIdx p l = (n : Int)) (hn : n < l.length) : p l[n] = true := by
  have : ∀ (l : List α) (k n : Nat) (hn : n < l.length), firstFrom p l k = ((k + n : Nat) : Int) → p l[n] = true := by
    intro l
    induction l with
    | nil => intro k n hn; cases hn
    | cons x l ih =>
      intro k n hn h
      simp only [firstFrom] at h
      by_cases hp : p x = true
      · rw [if_pos hp] at h
        obtain rfl : n = 0 := by omega
        exact hp
      · rw [if_neg hp] at h
        cases n with
        | zero =>
          exfalso
          rcases Int.lt_or_le (firstFrom p l (k + 1)) 0 with h1 | h1
          · omega
          · have h2 : ∀ (l : List α) (k : Nat), 0 ≤ firstFrom p l k → (k : Int) ≤ firstFrom p l k := by
              intro l
              induction l with
              | nil => intro k h; simp [firstFrom] at h
              | cons y l ih2 =>
                intro k h
                simp only [firstFrom] at h ⊢
                split
                · omega
                · rename_i hq; rw [if_neg hq] at h; have := ih2 (k + 1) h; omega
            have := h2 l (k + 1) h1
            omega
        | succ n =>
          exact ih (k + 1) n (by simpa using hn) (by rw [h]; congr 1; omega)
  exact this l 0 n hn (by rw [Nat.zero_add]; exact h)
theorem kd_cases {s : Sch} {kind kd : Int} {k : Nat} {RQ : List Int} (h : kd = kdAt s kind k) (hl : RQ.length = (ansL s kind k).length) : (kd = 2 ∧ RQ.length = 0) ∨ (kd = 1 ∧ RQ.length = 1) ∨ (kd = 3 ∧ 1 < RQ.length) := by
  obtain ⟨h1, h2, h3⟩ := kind_len (l := ansL s kind k)
  rw [h, hl]
  rcases kindOf_cases (ansL s kind k) with e | e | e
  · exact .inl ⟨e, h1.1 e⟩
  · exact .inr (.inr ⟨e, h3.1 e⟩)
  · exact .inr (.inl ⟨e, h2.1 e⟩)
theorem keeps_err {s : Sch} {q : Clm} {x1 x2 er : Int} (h : keepsR s [q] = (x1, x2, er)) (he : er ≠ 0) : x1 = 0 ∧ x2 = 0 := by
  unfold keepsR at h
  split at h
  · split at h
    · split at h
      · simp only [Prod.mk.injEq] at h; exact absurd h.2.2.symm he
      · simp only [Prod.mk.injEq] at h; exact ⟨h.1.symm, h.2.1.symm⟩
    · simp only [Prod.mk.injEq] at h; exact ⟨h.1.symm, h.2.1.symm⟩
  · simp only [Prod.mk.injEq] at h; exact ⟨h.1.symm, h.2.1.symm⟩
theorem keeps_one {s : Sch} {q : Clm} {x1 x2 er : Int} (h : keepsR s [q] = (x1, x2, er)) (he : er = 0) : schB s = true ∧ inB q.kind 0 (s.kinds - 1) = true ∧ regB s q.sets = true ∧
    ((∃ k : Nat, x1 = 0 ∧ x2 = (k : Int) ∧ k < chartsC s ∧ inR s q.sets k = true ∧ brk q.total q.clear (kdAt s q.kind k) = true) ∨ (x1 = -1 ∧ x2 = -1 ∧ ∀ k, k < chartsC s → badC s q k = false)) := by
  subst he
  unfold keepsR at h
  split at h
  · rename_i hv
    split at h
    · split at h
      · rename_i hE
        have hc := claimsE_zero hE q (by simp)
        refine ⟨hv, hc.1, hc.2, ?_⟩
        simp only [keepsI, Prod.mk.injEq] at h
        by_cases hf : 0 ≤ firstN (badC s q) (chartsC s)
        · rw [if_pos hf] at h
          obtain ⟨k, hk, he⟩ := firstIdx_lt (p := badC s q) (l := List.range (chartsC s)) hf
          rw [List.length_range] at hk
          have he' : firstN (badC s q) (chartsC s) = (k : Int) := he
          have hb : badC s q k = true := by
            cases hb : badC s q k with
            | true => rfl
            | false =>
              exfalso
              have h1 := firstIdx_hit (p := badC s q) (l := List.range (chartsC s)) he (by simpa using hk)
              simp [hb] at h1
          have hin : inR s q.sets k = true := by
            unfold badC at hb; simp only [Bool.and_eq_true] at hb; exact hb.1
          refine .inl ⟨k, h.1.symm, by rw [← h.2.1, he'], hk, hin, ?_⟩
          rw [← badC_brk hin]; exact hb
        · rw [if_neg hf] at h
          refine .inr ⟨h.1.symm, h.2.1.symm, fun k hk => ?_⟩
          have h1 : firstN (badC s q) (chartsC s) = -1 := firstIdx_neg hf
          exact cnt_zero.1 (firstN_neg.1 h1) k hk
      · simp only [Prod.mk.injEq] at h
        rename_i hE
        exact absurd h.2.2 hE
    · simp only [Prod.mk.injEq] at h; exact absurd h.2.2 (by decide)
  · simp only [Prod.mk.injEq] at h; exact absurd h.2.2 (by decide)
theorem chartsC_i {s : Sch} (V : Valid s) : ((chartsC s : Nat) : Int) = chartsN s.signs s.places.toNat := by
  have := chartsN_bd s.signs V.signs.1 s.places.toNat
  unfold chartsC; omega
end Go.Proofs.Ytidlmbajpbbilaa
namespace Go.Proofs.Ytidlmbajpbbilaa
open Go.RowKit

/-- a school made by own of s, its first i ranks twice as great -/
structure Dbl (s : Sch) (A : Option Addr) (c b i : Nat) (W : World) (q : Sch) : Prop where
  a : q.ra = A
  cc : q.rc = c
  pl : q.pl = plD s i
  m : MSch b W q
theorem Dbl.below {s q : Sch} {A : Option Addr} {c b i : Nat} {W W' : World} (h : Dbl s A c b i W q) (hb : Below W.heap.size W W') : Dbl s A c b i W' q := ⟨h.a, h.cc, h.pl, h.m.below hb⟩
theorem Dbl.len {s q : Sch} {A : Option Addr} {c b i : Nat} {W : World} (h : Dbl s A c b i W q) : q.rules.length = s.rules.length := plD_len h.pl
theorem MSch.nil {b : Nat} {W : World} {q : Sch} (h : MSch b W q) : q.nil0 := by
  refine ⟨fun e => ?_, fun r hr => (h.rows r hr).nil⟩
  rcases h.row.2 with ⟨hv, _⟩ | ⟨g, cap, cur, hv, _⟩
  · injection hv
  · rw [e] at hv; cases hv
theorem dbl_of {s q : Sch} {b : Nat} {W : World} (h : q.pl = s.pl) (hm : MSch b W q) : Dbl s q.ra q.rc b 0 W q := ⟨rfl, rfl, by rw [plD_zero, h], hm⟩
theorem pl_scv {s q : Sch} {A : Option Addr} {c : Nat} (h1 : q.places = s.places) (h2 : q.signs = s.signs) (h3 : q.kinds = s.kinds) (h4 : q.answers = s.answers) (h5 : q.rules.length = s.rules.length) (ha : q.ra = A) (hc : q.rc = c) :
    scv q q.rv = .agg #[.int .i64 s.places, .int .i64 s.signs, .int .i64 s.kinds, .int .i64 s.answers, .slice A s.rules.length c] := by
  have e : q.rv = .slice A s.rules.length c := by show Value.slice q.ra q.rules.length q.rc = _; rw [ha, hc, h5]
  show Value.agg #[.int .i64 q.places, .int .i64 q.signs, .int .i64 q.kinds, .int .i64 q.answers, q.rv] = _
  rw [h1, h2, h3, h4, e]
theorem Dbl.scv {s q : Sch} {A : Option Addr} {c b i : Nat} {W : World} (h : Dbl s A c b i W q) : Go.Proofs.Ytidlmbajpbbilaa.scv q q.rv = .agg #[.int .i64 s.places, .int .i64 s.signs, .int .i64 s.kinds, .int .i64 s.answers, .slice A s.rules.length c] := by
  have h3 := congrArg Sch.places h.pl; have h4 := congrArg Sch.signs h.pl; have h5 := congrArg Sch.kinds h.pl; have h6 := congrArg Sch.answers h.pl
  exact pl_scv h3 h4 h5 h6 h.len h.a h.cc
theorem Dbl.put {s q : Sch} {A : Option Addr} {c b i : Nat} {W : World} (h : Dbl s A c b i W q) (hi : i < s.rules.length) :
    ∃ g q', A = some ⟨g, 0, none⟩ ∧ b ≤ g ∧ (∃ cs, Blk W g cs 82) ∧ W.frozen? ⟨g, i * 5 + 2, none⟩ = false ∧ W.cell? ⟨g, i * 5 + 2, none⟩ = some (.int .i64 s.rules[i].rank) ∧ Dbl s A c b (i + 1) (W.setCell ⟨g, i * 5 + 2, none⟩ (.int .i64 (2 * s.rules[i].rank))) q' := by
  have hq : i < q.rules.length := by rw [h.len]; exact hi
  obtain ⟨hk, hp⟩ := plD_step h.pl hi hq
  obtain ⟨g, h1, h2, h3, h4, h5, h6⟩ := h.m.putf hq (Rul.rk (2 * s.rules[i].rank)) 2 (.int .i64 (2 * s.rules[i].rank)) (by omega) (rk_cells _ _) (fun W hW => rk_rows _ hW)
  obtain ⟨ab, ao, hra, _, hcell⟩ := h.m.reads.1.at_ (k := i) (fun _ => rfl) hq
  have hc : W.cell? ⟨ab, ao + i * 5 + 2, none⟩ = some (.int .i64 q.rules[i].rank) := hcell 2 _ rfl
  have e : some (⟨g, 0, none⟩ : Addr) = some ⟨ab, ao, none⟩ := by rw [← h1, hra]
  have e1 : g = ab ∧ 0 = ao := by injection e with e; injection e with e1 e2; exact ⟨e1, e2⟩
  obtain ⟨rfl, rfl⟩ := e1
  rw [Nat.zero_add, hk] at hc
  exact ⟨g, q.mod i (Rul.rk (2 * s.rules[i].rank)), by rw [← h.a, h1], h2, h3, h4, hc, ⟨h.a, h.cc, hp, h6⟩⟩
/-- the least of 100 and the first ranks -/
def leastT (s : Sch) : Nat → Int
  | 0 => 100
  | i + 1 => if leastT s i ≤ rnk s i then leastT s i else rnk s i
/-- one of the first ranks is too great to be doubled -/
def farT (s : Sch) : Nat → Bool
  | 0 => false
  | i + 1 => (farT s i || decide (50 < rnk s i)) || decide (rnk s i < -50)
theorem rnk_at {s : Sch} {i : Nat} (hi : i < s.rules.length) : rnk s i = s.rules[i].rank := by simp only [rnk, List.getElem?_eq_getElem hi]
theorem rnk_bd {s : Sch} (V : Valid s) {i : Nat} (hi : i < s.rules.length) : -100 ≤ rnk s i ∧ rnk s i ≤ 100 := by
  rw [rnk_at hi]; exact (V.rule i hi).rank
theorem least_le (s : Sch) : ∀ n i, i < n → leastT s n ≤ rnk s i
  | 0, i, h => by omega
  | n + 1, i, h => by
    have e : leastT s (n + 1) = if leastT s n ≤ rnk s n then leastT s n else rnk s n := rfl
    rw [e]
    rcases Nat.lt_succ_iff_lt_or_eq.1 h with h1 | h1
    · have := least_le s n i h1; split <;> omega
    · subst h1; split <;> omega
theorem least_bd {s : Sch} (V : Valid s) : ∀ n, n ≤ s.rules.length → -100 ≤ leastT s n ∧ leastT s n ≤ 100
  | 0, _ => by simp [leastT]
  | n + 1, h => by
    have e : leastT s (n + 1) = if leastT s n ≤ rnk s n then leastT s n else rnk s n := rfl
    have h1 := least_bd V n (by omega)
    have h2 := rnk_bd V (show n < s.rules.length by omega)
    rw [e]; split <;> omega
theorem far_no {s : Sch} : ∀ n, farT s n = false → ∀ i, i < n → -50 ≤ rnk s i ∧ rnk s i ≤ 50
  | 0, _, i, h => by omega
  | n + 1, hf, i, h => by
    simp only [farT, Bool.or_eq_false_iff, decide_eq_false_iff_not] at hf
    rcases Nat.lt_succ_iff_lt_or_eq.1 h with h1 | h1
    · exact far_no n hf.1.1 i h1
    · subst h1; omega
theorem rnk_out {s : Sch} {i : Nat} (h : s.rules.length ≤ i) : rnk s i = 0 := by simp only [rnk, List.getElem?_eq_none h]
/-- with all ranks twice as great no chart is read differently -/
theorem differ_dbl {s : Sch} (hv : schB s = true) (V : Valid s) (hf : farT s s.rules.length = false) {k : Nat} (hk : (k : Int) < s.kinds) : differR s s.dbl k = (-1, 0) := by
  have hb := far_no _ hf
  have hall : ∀ i, -50 ≤ rnk s i := fun i => by
    by_cases h : i < s.rules.length
    · exact (hb i h).1
    · rw [rnk_out (by omega)]; omega
  have hd : schB s.dbl = true := schB_dbl hv fun r hr => by
    obtain ⟨i, hi, rfl⟩ := List.mem_iff_getElem.1 hr
    have := hb i hi
    rw [rnk_at hi] at this; exact this
  have hkb : inB (k : Int) 0 (s.kinds - 1) = true := inB_iff.2 ⟨by omega, by omega⟩
  have e1 : s.dbl.places = s.places := rfl
  have e2 : s.dbl.signs = s.signs := rfl
  have e3 : s.dbl.kinds = s.kinds := rfl
  simp only [differR, hv, hd, e1, e2, e3, hkb, Bool.and_self, if_true, beq_self_eq_true]
  rw [firstN_none fun j _ => by rw [ansN_dbl s hall]; simp]
theorem df_any {s s' q' : Sch} {k : Nat} (hv : schB s = true) (V : Valid s) (hf : farT s s.rules.length = false) (hk : (k : Int) < s.kinds) (hp : s'.pl = s.pl) (hq : q'.pl = s.dbl.pl) {W0 W1 W : World} (hr : s'.reads W0 W0.heap.size) (h0 : Below W0.heap.size W0 W) (hr1 : q'.reads W1 W1.heap.size) (h1 : Below W1.heap.size W1 W) :
    Calls Try.prog 34 #[scv s' s'.rv, scv q' q'.rv, .int .i64 k] W fun e w' => e = .returned (.tuple #[.int .i64 (-1), .int .i64 0]) ∧ Below W.heap.size W w' := by
  have h := differ_any s' q' k W ((hr.below h0).more h0.size) ((hr1.below h1).more h1.size)
  rw [differ_cong' hp hq, differ_dbl hv V hf hk] at h
  exact h
/-- the rule more -/
def moreR (m : Rul) (L : Int) : Rul := ⟨none, 0, m.when_, m.kinds, L - 1, none, 0, [], m.says⟩
/-- the school with a rule more, made by own -/
structure Wide (s : Sch) (r : Rul) (A : Option Addr) (c b : Nat) (W : World) (q : Sch) : Prop where
  a : q.ra = A
  cc : q.rc = c
  pl : q.pl = (s.wide r).pl
  m : MSch b W q
theorem Wide.below {s q : Sch} {r : Rul} {A : Option Addr} {c b : Nat} {W W' : World} (h : Wide s r A c b W q) (hb : Below W.heap.size W W') : Wide s r A c b W' q := ⟨h.a, h.cc, h.pl, h.m.below hb⟩
theorem Wide.len {s q : Sch} {r : Rul} {A : Option Addr} {c b : Nat} {W : World} (h : Wide s r A c b W q) : q.rules.length = s.rules.length + 1 := by
  have h1 := congrArg (fun x => x.rules.length) h.pl
  simpa [len_pl, wide_len] using h1
theorem Wide.scv {s q : Sch} {r : Rul} {A : Option Addr} {c b : Nat} {W : World} (h : Wide s r A c b W q) : Go.Proofs.Ytidlmbajpbbilaa.scv q q.rv = .agg #[.int .i64 s.places, .int .i64 s.signs, .int .i64 s.kinds, .int .i64 s.answers, .slice A (s.rules.length + 1) c] := by
  have h3 := congrArg Sch.places h.pl; have h4 := congrArg Sch.signs h.pl; have h5 := congrArg Sch.kinds h.pl; have h6 := congrArg Sch.answers h.pl
  have := pl_scv (s := s.wide r) (q := q) h3 h4 h5 h6 (by rw [h.len, wide_len]) h.a h.cc
  rw [wide_len] at this
  exact this
theorem wide_of {s q : Sch} {m : Rul} {L : Int} {A A1 : Option Addr} {c c1 b : Nat} {W : World} (hp : q.pl = s.pl) (hm : MSch b W { q with ra := A, rc := c, rules := q.rules ++ [⟨A1, c1, m.when_, m.kinds, L - 1, none, 0, [], m.says⟩] }) :
    Wide s (moreR m L) A c b W { q with ra := A, rc := c, rules := q.rules ++ [⟨A1, c1, m.when_, m.kinds, L - 1, none, 0, [], m.says⟩] } := by
  refine ⟨rfl, rfl, ?_, hm⟩
  have h1 := congrArg Sch.rules hp
  have h3 := congrArg Sch.places hp; have h4 := congrArg Sch.signs hp; have h5 := congrArg Sch.kinds hp; have h6 := congrArg Sch.answers hp
  simp only [Sch.pl] at h1 h3 h4 h5 h6
  simp only [Sch.pl, Sch.wide, List.map_append, h1, h3, h4, h5, h6]
  rfl
/-- what is read of a chart with the school and with the wider one -/
structure RankF (s : Sch) (r : Rul) (kind : Int) (ch : List Int) (kd kd' : Int) (RQ RM RQ' RM' : List Int) : Prop where
  r1 : readR s ch kind = (kd, RQ, RM, 0)
  r2 : readR (s.wide r) ch kind = (kd', RQ', RM', 0)
  l1 : RQ.length ≤ 1000000
  l2 : RM.length ≤ 1000000
  h : kd ≠ 2 ∧ kd' = kd ∧ RQ' = RQ ∧ RM' = RM ∨ kd = 2 ∧ kd' ≠ 3
theorem rank_facts {s : Sch} {m : Rul} (hv : schB s = true) (V : Valid s) (hw : schB (s.wide (moreR m (leastT s s.rules.length))) = true) {ch : List Int} (hc : chartB s ch = true) {k : Nat} (hk : (k : Int) < s.kinds) :
    ∃ kd kd' RQ RM RQ' RM', RankF s (moreR m (leastT s s.rules.length)) k ch kd kd' RQ RM RQ' RM' := by
  have hkb : inB (k : Int) 0 (s.kinds - 1) = true := inB_iff.2 ⟨by omega, by omega⟩
  have hcw : chartB (s.wide (moreR m (leastT s s.rules.length))) ch = true := hc
  have hkw : inB (k : Int) 0 ((s.wide (moreR m (leastT s s.rules.length))).kinds - 1) = true := hkb
  have hr : ∀ i, i < s.rules.length → (moreR m (leastT s s.rules.length)).rank < rnk s i := fun i hi => by
    have := least_le s _ i hi
    show leastT s s.rules.length - 1 < _
    omega
  have hlo : ∀ i, -101 < rnk s i := fun i => by
    by_cases h : i < s.rules.length
    · have := rnk_bd V h; omega
    · rw [rnk_out (by omega)]; omega
  refine ⟨kdOf s k ch, kdOf (s.wide (moreR m (leastT s s.rules.length))) k ch, _, _, _, _, ⟨by simp only [readR, hv, hc, hkb, if_true]; rfl, by simp only [readR, hw, hcw, hkw, if_true]; rfl, bitsOf_len _, bitsOf_len _, ?_⟩⟩
  by_cases h : kdOf s k ch = 2
  · exact .inr ⟨h, ranks_few V hlo h⟩
  · obtain ⟨h1, h2, h3⟩ := ranks_same hr h
    exact .inl ⟨h, h1, by rw [h2], by rw [h3]⟩
theorem Blk.grown {W W' : World} {row : Option Nat} {k t : Nat} {cs : Array Value} (h : Blk W k cs t) (hg : W.grownBy W' row) (hne : some k ≠ row) : Blk W' k cs t := by
  have := hg.block k h.lt hne
  show W'.heap[k]? = _
  rw [this]; exact h
theorem own_ne_blk {W : World} {b e s n k t : Nat} {v : Value} {xs : List Value} {cs : Array Value} (h : W.ownsRow b e s v n xs) (hk : Blk W k cs t) (hne : e ≠ t) : some k ≠ v.ownBlock := by
  rcases h.2 with ⟨rfl, _⟩ | ⟨g, cap, cur, rfl, _, hg, _⟩
  · simp [Value.ownBlock]
  · intro e1
    have e2 : k = g := by simpa [Value.ownBlock] using e1
    subst e2
    have h1 : W.heap[k]? = some _ := hk
    rw [hg] at h1; injection h1 with h1; injection h1 with _ h1 _; exact hne h1
/-- a rule more is appended to a school made by own -/
theorem MSch.app {b gg cap : Nat} {W W5 : World} {q : Sch} {r : Rul} (h : MSch b W q) (hb5 : W5.ownsRow b 82 5 (.slice (some ⟨gg, 0, none⟩) (q.rules.length + 1) cap) (q.rules.length + 1) (flat Rul.cells q.rules ++ r.cells))
    (hg : W.grownBy W5 (Value.slice q.ra q.rules.length q.rc).ownBlock) (hr : RowsOf W r) (hl : q.rules.length + 1 ≤ 1000) : MSch b W5 { q with ra := some ⟨gg, 0, none⟩, rc := cap, rules := q.rules ++ [r] } := by
  have hA : ∀ r' : Rul, RowsOf W r' → RowsOf W5 r' := fun r' hr' => hr'.grown hg fun e v he ⟨s', n', xs', h'⟩ => ownsRow_apart h' h.row (by rcases he with rfl | rfl <;> decide)
  refine ⟨?_, fun r' hr' => ?_, by simpa using hl⟩
  · show W5.ownsRow b 82 5 (.slice (some ⟨gg, 0, none⟩) (q.rules ++ [r]).length cap) (q.rules ++ [r]).length (flat Rul.cells (q.rules ++ [r]))
    have e1 : (q.rules ++ [r]).length = q.rules.length + 1 := by simp
    have e2 : flat Rul.cells (q.rules ++ [r]) = flat Rul.cells q.rules ++ r.cells := by simp [flat]
    rw [e1, e2]; exact hb5
  · replace hr' : r' ∈ q.rules ++ [r] := hr'
    rcases List.mem_append.1 hr' with h1 | h1
    · exact hA _ (h.rows _ h1)
    · obtain rfl : r' = r := by simpa using h1
      exact hA _ hr
theorem MSch.putS {b k t : Nat} {W : World} {q : Sch} (h : MSch b W q) (hk : ∃ cs, Blk W k cs t) (h1 : 82 ≠ t) (h2 : 103 ≠ t) (h3 : 3 ≠ t) (j : Nat) (v : Value) : MSch b (W.setCell ⟨k, j, none⟩ v) q :=
  ⟨own_put' h.row hk h1 _ _, fun r hr => ⟨own_put' (h.rows r hr).w_ hk h2 _ _, own_put' (h.rows r hr).u_ hk h3 _ _, (h.rows r hr).l1, (h.rows r hr).l2, (h.rows r hr).ok⟩, h.len⟩
/-- own of a school made by own -/
theorem own_q {q : Sch} {b : Nat} {W0 : World} {X : Value} (hq : MSch b W0 q) (hs : scv q q.rv = X) (W : World) (hW : Below W0.heap.size W0 W) : Calls Try.prog 17 #[X] W (RetOwnN q W) := by
  have h := own_new q W (hq.below hW).reads hq.nil hq.len
  rw [hs] at h; exact h
/-- the set of all figures, as often as there are places -/
def fullL (s : Sch) (n : Nat) : List Int := List.replicate n ((2 : Int) ^ s.signs.toNat - 1)
theorem fullL_succ (s : Sch) (n : Nat) : fullL s (n + 1) = fullL s n ++ [(2 : Int) ^ s.signs.toNat - 1] := List.replicate_succ'
theorem fullL_u64 {s : Sch} (V : Valid s) (n : Nat) : ∀ x ∈ fullL s n, IsU64 x := fun x hx => by
  obtain rfl := List.eq_of_mem_replicate hx
  exact full_u64 V.signs.1 V.signs.2
theorem fullL_reg {s : Sch} (V : Valid s) : regB s (fullL s s.places.toNat) = true := by
  have := V.places
  simp only [regB, Bool.and_eq_true, decide_eq_true_eq, List.all_eq_true]
  refine ⟨by simp [fullL]; omega, fun x hx => ?_⟩
  obtain rfl := List.eq_of_mem_replicate hx
  exact full_fits V.signs.1
/-- the chart that is taken is a chart -/
theorem full_chart {s : Sch} (hv : schB s = true) (V : Valid s) {A : Option Addr} {c : Nat} {b : Bool} {L : List Int}
    (hy : b = true → L.length = (fullL s s.places.toNat).length ∧ Picked (fullL s s.places.toNat) L) (hn : b = false → L = [] ∧ ∃ x ∈ fullL s s.places.toNat, ∀ f : Nat, f < 64 → bitB x (f : Int) = false) : b = true ∧ L.length ≤ 1000000 ∧ chartB s L = true := by
  cases b with
  | false =>
    obtain ⟨_, x, hx, h⟩ := hn rfl
    obtain rfl := List.eq_of_mem_replicate hx
    have := h 0 (by omega)
    rw [show ((0 : Nat) : Int) = 0 from rfl, full_bit V.signs.1] at this
    cases this
  | true =>
    obtain ⟨h1, h2⟩ := hy rfl
    have := V.places
    have h3 : (fullL s s.places.toNat).length = s.places.toNat := by simp [fullL]
    exact ⟨rfl, by omega, (picked_chart hv V (fullL_u64 V _) (fullL_reg V) h1 h2).1⟩
end Go.Proofs.Ytidlmbajpbbilaa
namespace Go.Proofs.Ytidlmbajpbbilaa
open Go.RowKit

/-- a case without addresses -/
def Cas.pl (c : Cas) : Cas := { c with v := .slice none 0 0 }
def Cas.nil0 (c : Cas) : Prop := ∀ n cap, c.v = .slice none n cap → cap = 0
theorem casB_pl (s : Sch) (c : Cas) : casB s.pl c.pl = casB s c := rfl
theorem firstFrom_map {α β : Type} (p : β → Bool) (f : α → β) : ∀ (l : List α) (n : Nat), firstFrom p (l.map f) n = firstFrom (fun x => p (f x)) l n
  | [], _ => rfl
  | x :: l, n => by simp only [List.map_cons, firstFrom, firstFrom_map p f l]
theorem glAt_pl (s : Sch) (kind : Int) (cs : List Cas) (k : Nat) : glAt s.pl kind (cs.map Cas.pl) k = glAt s kind cs k := by
  have e1 : ∀ l : List Cas, firstIdx (fun c : Cas => holdsB (chartL s k) c.when_) (l.map Cas.pl) = firstIdx (fun c : Cas => holdsB (chartL s k) c.when_) l := fun l => firstFrom_map _ _ _ _
  have e2 : chartL s.pl k = chartL s k := rfl
  simp only [glAt, e2, e1, ← List.map_drop, ansN_pl, List.getElem?_map, Option.map_map]
  rfl
theorem glossN_pl (s : Sch) (kind : Int) (cs : List Cas) : glossN s.pl kind (cs.map Cas.pl) = glossN s kind cs := by
  simp only [glossN, glAt_pl]; rfl
theorem glossR_pl (s : Sch) (kind : Int) (cs : List Cas) : glossR s.pl kind (cs.map Cas.pl) = glossR s kind cs := by
  simp only [glossR, schB_pl, List.length_map, glossN_pl, glAt_pl, List.all_map]
  rfl
theorem gloss_cong {s s' : Sch} {cs cs' : List Cas} (h : s'.pl = s.pl) (h' : cs'.map Cas.pl = cs.map Cas.pl) (kind : Int) : glossR s' kind cs' = glossR s kind cs := by rw [← glossR_pl s', h, h', glossR_pl]
/-- cases with lists of their own are returned -/
def RetOwnK (cs : List Cas) (w : World) (e : Ending) (w' : World) : Prop := ∃ (A : Option Addr) (c : Nat) (cs' : List Cas), e = .returned (.slice A cs'.length c) ∧ cs'.length ≤ c ∧ c ≤ maxLen ∧ cs'.map Cas.pl = cs.map Cas.pl ∧ CasRead w' w'.heap.size A cs' ∧ Below w.heap.size w w'
theorem infoCase : (Try.prog.info? 54).map (fun i => (i.zero, i.size, i.bytes)) = some (some (.agg #[.slice none 0 0, .int .i64 0]), 2, 32) := by kernel_rfl
theorem uCases : Try.prog.underlying 51 = some (.slice 54) := by kernel_rfl
/-- a case whose list is a row -/
structure RowK (W : World) (q : Cas) : Prop where
  s_ : ∃ a cap, q.v = .slice a q.when_.length cap ∧ W.ownsRow 0 103 4 q.v q.when_.length (flat Tst.cells q.when_)
  l1 : q.when_.length ≤ 1000000
  ok : ∀ t ∈ q.when_, t.ok
theorem RowK.grown {W W' : World} {r : Cas} (h : RowK W r) {row : Option Nat} (hg : W.grownBy W' row) (hr : ∀ (v : Value), (∃ s n xs, W.ownsRow 0 103 s v n xs) → v.ownBlock = none ∨ v.ownBlock ≠ row) : RowK W' r := by
  obtain ⟨a, cap, h1, h2⟩ := h.s_
  exact ⟨⟨a, cap, h1, h2.kept hg (hr _ ⟨_, _, _, h2⟩)⟩, h.l1, h.ok⟩
theorem RowK.below {W W' : World} {r : Cas} (h : RowK W r) (hb : Below W.heap.size W W') : RowK W' r :=
  h.grown (grown_of_below hb) fun v _ => by cases hv : v.ownBlock <;> simp
theorem RowK.reads {W : World} {r : Cas} (h : RowK W r) : r.reads W W.heap.size := by
  obtain ⟨a, cap, h1, h2⟩ := h.s_
  obtain ⟨A, c, hv, hs⟩ := Sl.of_own h2
  exact ⟨⟨A, c, hv, hs⟩, h.l1, h.ok⟩

set_option maxRecDepth 100000 in
set_option maxHeartbeats 4000000 in
theorem cases_any (cs : List Cas) (A : Option Addr) (c : Nat) (w : World) (hr : CasRead w w.heap.size A cs) (h0 : ∀ q ∈ cs, q.nil0) (hl : cs.length ≤ 1000) : Calls Try.prog 28 #[.slice A cs.length c] w (RetOwnK cs w) := by
  obtain ⟨i1, hi1, iy0, iy1, iy2⟩ := info_parts infoCase
  have HRR := Lib.hid hr; have HN0 := Lib.hid h0
  clear hr h0
  go_enter Try.func28, Try.ntmps28
  go_wp2
  refine wp_world (fun W => Below w.heap.size w W ∧ w.heap.size < W.heap.size ∧ W.ownsRow w.heap.size 54 2 (.slice (some ⟨w.heap.size, 0, none⟩) 0 0) 0 []) ?_ ?_
  · refine ⟨by (repeat (first | exact Below.refl _ _ | assumption | (refine Below.alloc ?_ (by first | omega | (simp; omega) | (simp; done)) _) | (refine Below.setCell ?_ (by first | omega | (simp; omega) | (simp; done)) _) | (refine Below.drew ?_) | (refine belowN ?_ _) | (refine Below.trans ?_ (Below.mono ‹Below _ _ _› (by first | omega | (simp; omega) | (simp; done)))))), by simp, ?_⟩
    have := World.ownsRow_made (e := 54) (size := 2) w #[] 0 (base := w.heap.size) (by simp) (by simp) (by simp)
    simpa using this
  rintro w0 ⟨hbw, hz0, hown0⟩
  have HO0 := Lib.hid hown0
  go_loopw [3, 4] (fun v i wr => ∃ (j : Nat) (l : List Cas), j ≤ cs.length ∧ i = .int .i64 j ∧ Hid (l.length = j) ∧ Hid (wr.ownsRow w.heap.size 54 2 v l.length (flat Cas.cells l)) ∧ Hid (∀ r ∈ l, RowK wr r) ∧ Hid (l.map Cas.pl = (cs.take j).map Cas.pl) ∧
    Hid (Below w.heap.size w wr) ∧ w.heap.size < wr.heap.size) (fun _ i _ => cs.length - (intOf i).toNat)
  case atStart => exact ⟨0, [], by omega, rfl, rfl, HO0, (fun r hr => by cases hr), rfl, hbw, hz0⟩
  case round =>
    obtain ⟨j, l, hj, rfl, hlj, hown, hrows, hpl, hbr, hzr⟩ := hrel
    by_cases hlt : j < cs.length
    · have hrr := HRR.out.below hbr.out
      obtain ⟨ab, ao, rfl, hblk, hcell⟩ := hrr.1.at_ (k := j) (fun _ => rfl) hlt
      obtain ⟨⟨qa, qc, hqv, hq1⟩, hq2, hq3⟩ := (hrr.2.2 _ (List.getElem_mem hlt)).more hbr.out.size
      have hn0 := HN0.out _ (List.getElem_mem hlt)
      have HTK := Lib.hid (List.take_succ_eq_append_getElem hlt)
      obtain ⟨r, hre⟩ : ∃ t, cs[j] = t := ⟨_, rfl⟩
      rw [hre] at hcell hqv hq1 hq2 hq3 hn0 HTK
      obtain ⟨qv, ts, says⟩ := r
      simp only at hqv hq1 hq2 hq3
      subst hqv
      have c0 : wr.cell? ⟨ab, ao + j * 2, none⟩ = some (.slice qa ts.length qc) := hcell 0 _ rfl
      have c1 : wr.cell? ⟨ab, ao + j * 2 + 1, none⟩ = some (.int .i64 says) := hcell 1 _ rfl
      have hj0 : (0 : Int) ≤ (j : Int) := by omega
      have hj1 : (j : Int) < (cs.length : Int) := by omega
      have hab : ab < w.heap.size := hblk
      have habr : ab < wr.heap.size := by omega
      have HT := fun W (hW : Below wr.heap.size wr W) => Lib.hid (ltests_any qa qc ts W hq2 (fun e => by subst e; exact hn0 _ _ rfl) (oneCell_tests _ hq3) ((hq1.below hW).more hW.size))
      have HOK := Lib.hid hq3
      have hnb : some ab ≠ u3.ownBlock := fun e => by have := own_ge hown.out e.symm; omega
      clear hcell hre hrr hq1 hq3 hn0
      go_wp2
      go_region_held_law (fun w' => w'.cell? ⟨ab, ao + j * 2, none⟩ = some (.slice qa ts.length qc) ∧ w'.cell? ⟨ab, ao + j * 2 + 1, none⟩ = some (.int .i64 says))
        (first | exact ⟨c0, c1⟩ | go_keep | (refine ⟨?_, ?_⟩ <;> (rw [hgrow.cell_far _ (by simp; omega) hnb]; simp [*])))
        (first | (go_at_call 37; refine ((HT _ (by (repeat (first | exact Below.refl _ _ | assumption | (refine Below.alloc ?_ (by first | omega | (simp; omega) | (simp; done)) _) | (refine Below.setCell ?_ (by first | omega | (simp; omega) | (simp; done)) _) | (refine Below.drew ?_) | (refine belowN ?_ _) | (refine Below.trans ?_ (Below.mono ‹Below _ _ _› (by first | omega | (simp; omega) | (simp; done)))))))).out).mono ?_; rintro e w1 ⟨v1, rfl, hown1, hb1⟩; obtain ⟨A1, k1, hv1⟩ : ∃ A c, v1 = .slice A ts.length c := (by obtain ⟨A, c, h, _⟩ := Sl.of_own hown1; exact ⟨A, c, h⟩); subst hv1; have hyc : Below wr.heap.size wr w1 := Below.trans (by (repeat (first | exact Below.refl _ _ | assumption | (refine Below.alloc ?_ (by first | omega | (simp; omega) | (simp; done)) _) | (refine Below.setCell ?_ (by first | omega | (simp; omega) | (simp; done)) _) | (refine Below.drew ?_) | (refine belowN ?_ _) | (refine Below.trans ?_ (Below.mono ‹Below _ _ _› (by first | omega | (simp; omega) | (simp; done))))))) (hb1.mono (by simp)); have c0 := (hyc.cell (p := ⟨ab, ao + j * 2, none⟩) habr).trans c0; have c1 := (hyc.cell (p := ⟨ab, ao + j * 2 + 1, none⟩) habr).trans c1; have HOW := Lib.hid (hown.out.kept (grown_of_below hyc) (by cases hv : u3.ownBlock <;> simp)); have HO1 := Lib.hid hown1; have hzc := hyc.size; clear hown1) |
          (refine step_append_lies _ (by rfl) _ _ _ (by rfl) w.heap.size 54 i1 (.agg #[.slice none 0 0, .int .i64 0]) 2 32 uCases hi1 iy0 iy1 iy2 rfl (by omega) _ _ _ (by rfl) (HOW.out.alloc _) ⟨w1.heap.size, 0, none⟩ 1 1 [.slice A1 ts.length k1, .int .i64 says] (by rfl) (by rfl) (World.news_of_block (cs := #[.slice A1 ts.length k1, .int .i64 says]) (t := 54) (fr := (0, 0)) (heap_alloc_new w1 _)) (by simp [Value.oneCell']) (by omega) (by have := hlj.out; unfold maxLen; omega) (by have := hlj.out; omega) (by simp; omega) (w1.heap.size + 1) (by simp) ?_; intro gg cap w5 hown5 hgrow hat hgl))
      have hol := hlj.out
      have hb45 : Below w.heap.size wr w5 := ((hyc.mono (by omega)).alloc (by omega) _).grown hgrow (by simp; omega) (fun g hg => own_ge hown.out hg)
      have hbz5 : w1.heap.size < w5.heap.size := by have := hgrow.size; simp at this; omega
      go_wp2
      refine ⟨⟨j + 1, l ++ [⟨.slice A1 ts.length k1, ts, says⟩], by omega, by simp, by show _ = _; simp [hol], by show World.ownsRow _ _ _ _ _ _ _; simpa [flat, Cas.cells, hol] using hown5, ?_, ?_, hbr.out.trans (hb45.mono (by omega)), by omega⟩, by simp [intOf]; omega⟩
      · show ∀ r ∈ _, _
        have hA : ∀ q : Cas, RowK (w1.alloc (.cells #[.slice A1 ts.length k1, .int .i64 says] 54)) q → RowK w5 q := fun q hq => hq.grown hgrow fun v ⟨s', n', xs', h'⟩ =>
          ownsRow_apart h' (HOW.out.alloc (.cells #[.slice A1 ts.length k1, .int .i64 says] 54)) (by decide)
        intro q hq
        rcases List.mem_append.1 hq with hq | hq
        · exact hA q (((hrows.out q hq).below hyc).below ((Below.refl _ _).alloc (Nat.le_refl _) _))
        · obtain rfl : q = _ := by simpa using hq
          exact hA _ (RowK.below (W := w1) ⟨⟨A1, k1, rfl, own_mono HO1.out⟩, hq2, HOK.out⟩ ((Below.refl _ _).alloc (Nat.le_refl _) _))
      · show _ = _
        rw [HTK.out, List.map_append, List.map_append, hpl.out]; rfl
    · obtain rfl : j = cs.length := by omega
      have hjl := hlj.out
      obtain ⟨A', c', rfl, hs⟩ := Sl.of_own hown.out
      have HS := Lib.hid hs
      have hcap : l.length ≤ c' ∧ c' ≤ maxLen := by
        rcases hown.out.2 with ⟨hv, h0⟩ | ⟨g, cap, cur, hv, _, _, h1, h2, _⟩
        · have e1 : A' = none ∧ l.length = 0 ∧ c' = 0 := by injection hv with e1 e2 e3; exact ⟨e1, e2, e3⟩
          unfold maxLen; omega
        · have e1 : c' = cap := by injection hv with _ _ e3
          exact ⟨by omega, by omega⟩
      clear hs
      go_wp2
      go_ret
      refine ⟨A', c', l, rfl, hcap.1, hcap.2, by rw [hpl.out, List.take_length], ⟨HS.out, by omega, fun q hq => (hrows.out q hq).reads⟩, hbr.out⟩
end Go.Proofs.Ytidlmbajpbbilaa

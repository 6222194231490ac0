/- School: what valid schools have; which rules speak (plain part). -/
import Derived.Test.YtidlmbajpbbilaaZ02ScE
import Derived.StillTailTactics
namespace Go.Proofs.Ytidlmbajpbbilaa
open Go.RowKit

theorem ascB_mem {num : Int} : ∀ {l : List Int} {b : Int}, ascB num b l = true → ∀ u ∈ l, b < u ∧ u < num := by
  intro l
  induction l with
  | nil => intro b _ u hu; cases hu
  | cons x l ih =>
    intro b h u hu
    simp only [ascB, Bool.and_eq_true, decide_eq_true_eq] at h
    rcases List.mem_cons.1 hu with rfl | hu
    · exact h.1
    · have := ih h.2 u hu; omega
structure RuleOk (s : Sch) (k : Nat) (r : Rul) : Prop where
  tests : ∀ t ∈ r.when_, TestFit s.places.toNat t
  len : r.when_.length ≤ 6
  kinds : 0 ≤ r.kinds ∧ r.kinds < 2 ^ s.kinds.toNat
  rank : -100 ≤ r.rank ∧ r.rank ≤ 100
  unl : ∀ u ∈ r.unless_, 0 ≤ u ∧ u < k
  ulen : r.unless_.length ≤ 5
  says : 0 ≤ r.says ∧ r.says < s.answers
structure Valid (s : Sch) : Prop where
  places : 1 ≤ s.places ∧ s.places ≤ 6
  signs : 1 ≤ s.signs ∧ s.signs ≤ 64
  charts : chartsN s.signs s.places.toNat ≤ 4096
  kinds : 1 ≤ s.kinds ∧ s.kinds ≤ 4
  answers : 1 ≤ s.answers ∧ s.answers ≤ 20
  len : s.rules.length ≤ 30
  rule : ∀ k, (h : k < s.rules.length) → RuleOk s k s.rules[k]
theorem Valid.small {s : Sch} (h : Valid s) : Small s := ⟨h.places.1, h.places.2, h.signs.1, h.signs.2⟩
theorem tstB_fit {s : Sch} {t : Tst} (ht : t.ok) (hp : 1 ≤ s.places) (h : tstB s t = true) : TestFit s.places.toNat t := by
  simp only [tstB, Bool.and_eq_true, Bool.or_eq_true, beq_iff_eq, bne_iff_ne, inB_iff] at h
  obtain ⟨h1, h2⟩ := h
  refine ⟨ht, h1.1, by omega, ?_, ?_⟩ <;> (rcases h2 with h2 | h2 <;> omega)
theorem ruleOk_of {s : Sch} {k : Nat} {r : Rul} (hp : 1 ≤ s.places) (ho : ∀ t ∈ r.when_, t.ok) (h : ruleB s k r = true) : RuleOk s k r := by
  simp only [ruleB, testsB, Bool.and_eq_true, decide_eq_true_eq, inB_iff, List.all_eq_true] at h
  obtain ⟨⟨⟨⟨⟨h1, h2, h2'⟩, h3⟩, h4⟩, h5⟩, h6⟩ := h
  exact ⟨fun t ht => tstB_fit (ho t ht) hp (h2' t ht), h2, by omega, h4, fun u hu => by have := ascB_mem h1 u hu; omega, h5, by omega⟩
theorem rulesB_get {s : Sch} : ∀ {l : List Rul} {i : Nat}, rulesB s i l = true → ∀ k, (h : k < l.length) → ruleB s ((i + k : Nat) : Int) l[k] = true := by
  intro l
  induction l with
  | nil => intro i _ k h; simp at h
  | cons x l ih =>
    intro i h k hk
    simp only [rulesB, Bool.and_eq_true] at h
    cases k with
    | zero => simpa using h.1
    | succ k =>
      have := ih h.2 k (by simpa using hk)
      rw [show i + 1 + k = i + (k + 1) by omega] at this
      simpa using this
theorem valid_of {s : Sch} (ho : ∀ r ∈ s.rules, ∀ t ∈ r.when_, t.ok) (h : schB s = true) : Valid s := by
  simp only [schB, baseB, Bool.and_eq_true, decide_eq_true_eq, inB_iff] at h
  obtain ⟨⟨⟨⟨⟨⟨h1, h2⟩, h3⟩, h4⟩, h5⟩, h6⟩, h7⟩ := h
  refine ⟨h1, h2, h3, h4, h5, h6, fun k hk => ?_⟩
  have := rulesB_get h7 k hk
  rw [Nat.zero_add] at this
  exact ruleOk_of h1.1 (ho _ (List.getElem_mem hk)) this
theorem Sch.reads.oks {s : Sch} {w : World} {B : Nat} (h : s.reads w B) : ∀ r ∈ s.rules, ∀ t ∈ r.when_, t.ok := fun r hr => (h.2.2 r hr).2.2.2.2

def kbit (r : Rul) (kind : Int) : Bool := r.kinds / 2 ^ kind.toNat % 2 == 1
/-- rule i speaks, of the first n rules -/
def spks (s : Sch) (hold : Nat → Bool) (kind : Int) : Nat → Nat → Bool
  | 0, _ => false
  | n + 1, i => if i = n then hold n && (match s.rules[n]? with | some r => kbit r kind && !(r.unless_.any fun u => spks s hold kind n u.toNat) | none => false) else spks s hold kind n i
def sp (s : Sch) (hold : Nat → Bool) (kind : Int) (i : Nat) : Bool := spks s hold kind (i + 1) i
theorem spks_eq (s : Sch) (hold : Nat → Bool) (kind : Int) (n i : Nat) : spks s hold kind n i = (decide (i < n) && sp s hold kind i) := by
  induction n with
  | zero => simp [spks]
  | succ n ih =>
    by_cases h : i = n
    · subst h; simp [sp]
    · have hd : decide (i < n) = decide (i < n + 1) := by simp; omega
      simp only [spks, if_neg h, ih, hd]
theorem sp_eq (s : Sch) (hold : Nat → Bool) (kind : Int) (k : Nat) (hk : k < s.rules.length) (hu : ∀ u ∈ s.rules[k].unless_, 0 ≤ u ∧ u < k) :
    sp s hold kind k = (hold k && (kbit s.rules[k] kind && !(s.rules[k].unless_.any fun u => sp s hold kind u.toNat))) := by
  have h : (s.rules[k].unless_.any fun u => spks s hold kind k u.toNat) = (s.rules[k].unless_.any fun u => sp s hold kind u.toNat) := by
    rw [Bool.eq_iff_iff, List.any_eq_true, List.any_eq_true]
    constructor
    · rintro ⟨u, hu1, hu2⟩; rw [spks_eq] at hu2; simp at hu2; exact ⟨u, hu1, hu2.2⟩
    · rintro ⟨u, hu1, hu2⟩; refine ⟨u, hu1, ?_⟩; rw [spks_eq, hu2]; have := hu u hu1; simp; omega
  rw [← h]
  simp [sp, spks, List.getElem?_eq_getElem hk]
def rnk (s : Sch) (i : Nat) : Int := match s.rules[i]? with | some r => r.rank | none => 0
def topR (s : Sch) (f : Nat → Bool) : Nat → Int
  | 0 => -101
  | n + 1 => if f n && decide (topR s f n < rnk s n) then rnk s n else topR s f n
/-- the rules below n that speak and are not outranked -/
def mainS (s : Sch) (f : Nat → Bool) (n : Nat) (i : Nat) : Bool := f i && rnk s i == topR s f n
theorem topR_le (s : Sch) (f : Nat → Bool) (n i : Nat) (h : i < n) (hf : f i = true) : rnk s i ≤ topR s f n := by
  induction n with
  | zero => omega
  | succ n ih =>
    simp only [topR]
    by_cases hi : i = n
    · subst hi; rw [hf]; simp only [Bool.true_and, decide_eq_true_eq]; split <;> omega
    · have := ih (by omega)
      split
      · rename_i h2; simp at h2; omega
      · exact this
/-- one rule more: outranks all, or is one of them, or changes nothing -/
theorem main_new {s : Sch} {f : Nat → Bool} {n : Nat} (h : f n = true) (hr : topR s f n < rnk s n) : topR s f (n + 1) = rnk s n ∧ bset (mainS s f (n + 1)) (n + 1) = 2 ^ n := by
  have ht : topR s f (n + 1) = rnk s n := by simp [topR, h, hr]
  refine ⟨ht, ?_⟩
  rw [← bset_one (Nat.lt_succ_self n)]
  refine bset_congr fun i hi => ?_
  simp only [mainS, ht]
  by_cases hin : i = n
  · subst hin; simp [h]
  · cases hfi : f i with
    | false => simp [hin]
    | true =>
      have := topR_le s f n i (by omega) hfi
      have h2 : (rnk s i == rnk s n) = false := by simp only [beq_eq_false_iff_ne]; omega
      have h3 : (i == n) = false := by simp [hin]
      rw [h2, h3]; rfl
theorem main_add {s : Sch} {f : Nat → Bool} {n : Nat} (h : f n = true) (hr : topR s f n = rnk s n) : topR s f (n + 1) = topR s f n ∧ bset (mainS s f (n + 1)) (n + 1) = bset (mainS s f n) n ||| 2 ^ n := by
  have ht : topR s f (n + 1) = topR s f n := by simp [topR, h, hr]
  refine ⟨ht, ?_⟩
  have hm : mainS s f (n + 1) = mainS s f n := by funext i; simp [mainS, ht]
  rw [hm, bset_next (by simp [mainS, h, hr])]
theorem main_old {s : Sch} {f : Nat → Bool} {n : Nat} (h : f n = false ∨ rnk s n < topR s f n) : topR s f (n + 1) = topR s f n ∧ bset (mainS s f (n + 1)) (n + 1) = bset (mainS s f n) n := by
  have ht : topR s f (n + 1) = topR s f n := by
    simp only [topR]
    rcases h with h | h
    · simp [h]
    · rw [if_neg]; simp; omega
  refine ⟨ht, ?_⟩
  have hm : mainS s f (n + 1) = mainS s f n := by funext i; simp [mainS, ht]
  rw [hm, bset_same]
  rcases h with h | h
  · simp [mainS, h]
  · simp only [mainS, Bool.and_eq_false_iff]; right; simp; omega
end Go.Proofs.Ytidlmbajpbbilaa
namespace Go.Proofs.Ytidlmbajpbbilaa
open Go.RowKit

theorem bool_div (V j : Nat) : (((V / 2 ^ j % 2 : Nat) : Int) == 1) = V.testBit j := by
  rw [Nat.testBit_eq_decide_div_mod_eq]
  have : V / 2 ^ j % 2 = 0 ∨ V / 2 ^ j % 2 = 1 := by omega
  rcases this with h | h <;> rw [h] <;> rfl
theorem bool_div0 (V j : Nat) : (((V / 2 ^ j % 2 : Nat) : Int) == 0) = !V.testBit j := by
  rw [Nat.testBit_eq_decide_div_mod_eq]
  have : V / 2 ^ j % 2 = 0 ∨ V / 2 ^ j % 2 = 1 := by omega
  rcases this with h | h <;> rw [h] <;> rfl
theorem u32_is1 (V j : Nat) (hV : V < 4294967296) : (bits BinOp.and IntKind.u32 ((V : Int) / 2 ^ j) 1 == 1) = V.testBit j := by rw [u32bit V j hV, bool_div]
theorem u32_is0 (V j : Nat) (hV : V < 4294967296) : (bits BinOp.and IntKind.u32 ((V : Int) / 2 ^ j) 1 == 0) = !V.testBit j := by rw [u32bit V j hV, bool_div0]
theorem u32_andnot (H O : Nat) (hH : H < 4294967296) (hO : O < 4294967296) : ∃ X : Nat, X < 4294967296 ∧ bits BinOp.andNot IntKind.u32 (H : Int) (O : Int) = (X : Int) ∧ ∀ j, j < 32 → X.testBit j = (H.testBit j && !O.testBit j) := by
  refine ⟨H &&& (4294967295 - O), Nat.lt_of_le_of_lt Nat.and_le_left hH, u32_andNot_nat H O hH hO, fun j hj => ?_⟩
  have h1 : 4294967295 - O = 2 ^ 32 - (O + 1) := by omega
  rw [Nat.testBit_and, h1, Nat.testBit_two_pow_sub_succ (by omega)]
  simp [hj]
theorem i64_is0 (r : Rul) (kind : Int) (h0 : 0 ≤ r.kinds) (h1 : r.kinds < 16) : (bits BinOp.and IntKind.i64 (r.kinds / 2 ^ kind.toNat) 1 == 0) = !kbit r kind := by
  have hp : (0 : Int) < 2 ^ kind.toNat := Int.pow_pos (by omega)
  have h2 : 0 ≤ r.kinds / 2 ^ kind.toNat := Int.ediv_nonneg h0 (by omega)
  have h3 : r.kinds / 2 ^ kind.toNat ≤ r.kinds := Int.ediv_le_self _ h0
  unfold kbit
  obtain ⟨x, hx⟩ := Int.eq_ofNat_of_zero_le h2
  have e : bits BinOp.and IntKind.i64 (x : Int) 1 = ((x % 2 : Nat) : Int) := by
    have hx2 : x &&& 1 < 2 ^ 63 := Nat.and_lt_two_pow _ (by omega)
    show IntKind.i64.wrap ((BitVec.ofInt 64 (x : Int) &&& BitVec.ofInt 64 ((1 : Nat) : Int)).toNat : Int) = _
    rw [BitVec.toNat_and, BitVec.ofInt_natCast, BitVec.ofInt_natCast, BitVec.toNat_ofNat, BitVec.toNat_ofNat, Nat.mod_eq_of_lt (by omega), Nat.mod_eq_of_lt (by omega), Nat.and_one_is_mod, IntKind.wrap_i64]
    omega
  rw [hx, e]
  have : x % 2 = 0 ∨ x % 2 = 1 := by omega
  have hc : ((x : Int) % 2) = ((x % 2 : Nat) : Int) := by omega
  rw [hc]
  rcases this with h | h <;> rw [h] <;> rfl

theorem ent_speak1 : Ent 87 := ent_of Try.func87 (by kernel_rfl) rfl
theorem speak1_any (V : Nat) (hV : V < 4294967296) (u : Int) (h0 : 0 ≤ u) (h1 : u < 32) (B : Nat) (W : World) (hc : W.cell? ⟨B, 0, none⟩ = some (.int .u32 (V : Int))) :
    Calls Try.prog 87 (#[Value.int .i64 u] ++ #[.pointer (some ⟨B, 0, none⟩)]) W fun e W' => e = .returned (.bool (V.testBit u.toNat)) ∧ Below W.heap.size W W' := by
  obtain ⟨x, rfl⟩ := Int.eq_ofNat_of_zero_le h0
  have HX := Lib.hid (u32_is1 V x hV)
  go_enter Try.func87, Try.ntmps87
  go_wp2
  go_ret
  exact ⟨ret_bool HX.out, Below.refl _ _⟩
theorem unl_any (V : Nat) (hV : V < 4294967296) (r : Rul) (B : Nat) (W : World) (hc : W.cell? ⟨B, 0, none⟩ = some (.int .u32 (V : Int))) (hB : B < W.heap.size) (hu : ∀ u ∈ r.unless_, 0 ≤ u ∧ u < 32)
    (hl : r.unless_.length ≤ 1000000) (hr : Sl intCell 1 W W.heap.size r.ua r.unless_) :
    Calls Try.prog 86 #[.slice r.ua r.unless_.length r.uc, .func (.func 87) #[] #[.pointer (some ⟨B, 0, none⟩)]] W fun e w' => e = .returned (.bool (r.unless_.any fun u => V.testBit u.toNat)) ∧ Below W.heap.size W w' := by
  refine ints_any_any 87 _ r.ua r.uc r.unless_ _ W ent_speak1 hl hr ?_
  intro u hu' W' hW'
  exact speak1_any V hV u (hu u hu').1 (hu u hu').2 B W' (by rw [hW'.cell (p := ⟨B, 0, none⟩) hB]; exact hc)

/-- what a round of speak knows -/
structure SpkRound (s : Sch) (hold : Nat → Bool) (kind : Int) (f : Nat → Bool) (j : Nat) (r : Rul) : Prop where
  eq : f j = (hold j && (kbit r kind && !(r.unless_.any fun u => (bset f j).testBit u.toNat)))
  rnk : rnk s j = r.rank
  mem : r ∈ s.rules
theorem spkRound {s : Sch} (hv : Valid s) (hold : Nat → Bool) (kind : Int) (j : Nat) (hj : j < s.rules.length) : SpkRound s hold kind (sp s hold kind) j s.rules[j] := by
  have ho := hv.rule j hj
  refine ⟨?_, by simp [Go.Proofs.Ytidlmbajpbbilaa.rnk, List.getElem?_eq_getElem hj], List.getElem_mem hj⟩
  rw [sp_eq s hold kind j hj ho.unl]
  have h : (s.rules[j].unless_.any fun u => sp s hold kind u.toNat) = (s.rules[j].unless_.any fun u => (bset (sp s hold kind) j).testBit u.toNat) := by
    rw [Bool.eq_iff_iff, List.any_eq_true, List.any_eq_true]
    constructor
    · rintro ⟨u, hu1, hu2⟩; refine ⟨u, hu1, ?_⟩; have := ho.unl u hu1; rw [bset_testBit, hu2]; simp; omega
    · rintro ⟨u, hu1, hu2⟩; rw [bset_testBit] at hu2; simp at hu2; exact ⟨u, hu1, hu2.2⟩
  rw [h]
end Go.Proofs.Ytidlmbajpbbilaa
namespace Go.Proofs.Ytidlmbajpbbilaa
open Go.RowKit

set_option maxRecDepth 100000 in
set_option maxHeartbeats 4000000 in
theorem speak_any (s : Sch) (R : Value) (hR : R = s.rv) (H O : Nat) (hH : H < 4294967296) (hO : O < 4294967296) (kind : Int) (hk0 : 0 ≤ kind) (hk1 : kind < s.kinds) (w : World) (hv : Valid s) (hr : s.reads w w.heap.size) :
    Calls Try.prog 56 #[rdv s R (O : Int), .int .u32 (H : Int), .int .i64 kind] w fun e w' =>
      e = .returned (.int .u32 ((bset (mainS s (sp s (fun i => H.testBit i && !O.testBit i) kind) s.rules.length) s.rules.length : Nat) : Int)) ∧ Below w.heap.size w w' := by
  obtain ⟨hr0, hl', hrr⟩ := hr
  have hlen := hv.len
  obtain ⟨hold, hhold⟩ : ∃ h : Nat → Bool, h = fun i => H.testBit i && !O.testBit i := ⟨_, rfl⟩
  rw [← hhold]
  have HR := fun (j : Nat) (hj : j < s.rules.length) => Lib.hid (spkRound hv hold kind j hj)
  have HOK := fun (j : Nat) (hj : j < s.rules.length) => Lib.hid (hv.rule j hj)
  obtain ⟨f, hf⟩ : ∃ f, f = sp s hold kind := ⟨_, rfl⟩
  rw [← hf] at HR ⊢
  clear hf
  have hkk := hv.kinds
  obtain ⟨X, hX, hXe, hXb⟩ := u32_andnot H O hH hO
  have HX0 : ∀ j, j < 32 → Hid ((bits BinOp.and IntKind.u32 ((X : Int) / 2 ^ j) 1 == 0) = !hold j) := fun j hj => by
    show _ = _
    rw [u32_is0 X j hX, hXb j hj, hhold]
  have HU : ∀ (W : World) (V : Nat) (r : Rul) (B : Nat), r ∈ s.rules → Below w.heap.size w W → V < 4294967296 → W.cell? ⟨B, 0, none⟩ = some (.int .u32 (V : Int)) → B < W.heap.size → (∀ u ∈ r.unless_, 0 ≤ u ∧ u < 32) →
      Hid (Calls Try.prog 86 #[.slice r.ua r.unless_.length r.uc, .func (.func 87) #[] #[.pointer (some ⟨B, 0, none⟩)]] W fun e w' => e = .returned (.bool (r.unless_.any fun u => V.testBit u.toNat)) ∧ Below W.heap.size W w') :=
    fun W V r B hr hW hV hc hB hu => unl_any V hV r B W hc hB hu (hrr r hr).2.2.2.1 (((hrr r hr).2.1.below hW).more hW.size)
  have HRnk := Lib.hid (show ∀ i, rnk s i = rnk s i from fun _ => rfl)
  clear hrr hv hhold hXb hl' hH hO
  have HXe := hXe
  clear hXe
  obtain ⟨pl, sg, k, a, ra, rc, rs⟩ := s
  obtain ⟨S, hS⟩ : ∃ S : Sch, S = ⟨pl, sg, k, a, ra, rc, rs⟩ := ⟨_, rfl⟩
  rw [← hS] at HR HOK HRnk ⊢
  have hSr : S.rules = rs := by rw [hS]
  simp only at *
  subst hR
  have HR0 := Lib.hid hr0
  clear hr0
  obtain ⟨m, hm⟩ : ∃ m, m = rs.length := ⟨_, rfl⟩
  have HSR := Lib.hid hSr
  have HSK : Hid (S.kinds = k) := (by rw [hS] : S.kinds = k)
  have HM := Lib.hid hm
  have HHR := Lib.hid HR; have HHOK := Lib.hid HOK; have HHU := Lib.hid HU; have HHX := Lib.hid HX0
  rw [hSr, ← hm]
  rw [← hm] at hlen
  simp only [rdv, hS, Sch.rv, ← hm]
  rw [← hS]
  clear hm hSr HR HOK HU HX0 hS
  go_enter Try.func56, Try.ntmps56
  go_wp2
  obtain ⟨W0, hW0⟩ : ∃ W0, W0 = (w.alloc (Obj.cells #[Value.int IntKind.i64 pl, Value.int IntKind.i64 sg, Value.int IntKind.i64 k, Value.int IntKind.i64 a, Value.slice ra m rc, Value.int IntKind.u32 (O : Int)] 108)).alloc (Obj.cells #[Value.int IntKind.u32 0] 106) := ⟨_, rfl⟩
  have hwW : Below w.heap.size w W0 := by rw [hW0]; (repeat (first | exact Below.refl _ _ | assumption | (refine Below.alloc ?_ (by first | omega | (simp; omega) | (simp; done)) _) | (refine Below.setCell ?_ (by first | omega | (simp; omega) | (simp; done)) _) | (refine Below.drew ?_) | (refine belowN ?_ _) | (refine Below.trans ?_ (Below.mono ‹Below _ _ _› (by first | omega | (simp; omega) | (simp; done))))))
  have hW5 : W0.cell? ⟨w.heap.size, 5, none⟩ = some (.int .u32 (O : Int)) := by rw [hW0]; simp [go_sem]
  have hWs : W0.heap[w.heap.size + 1]? = some (.cells #[.int .u32 0] 106 (0, 0)) := by
    have h := heap_alloc_new (w.alloc (Obj.cells #[Value.int IntKind.i64 pl, Value.int IntKind.i64 sg, Value.int IntKind.i64 k, Value.int IntKind.i64 a, Value.slice ra m rc, Value.int IntKind.u32 (O : Int)] 108)) (Obj.cells #[Value.int IntKind.u32 0] 106)
    rw [World.size_alloc] at h; rw [hW0]; exact h
  have hWz : W0.heap.size = w.heap.size + 2 := by rw [hW0]; simp
  rw [← hW0]
  have HW5 := Lib.hid hW5; have HWs := Lib.hid hWs; have HWz := Lib.hid hWz
  clear hW0 hW5 hWs hWz
  go_loopw [6, 7, 15] (fun l rk i wr => ∃ j : Nat, j ≤ m ∧ i = .int .i64 j ∧ rk = .int .i64 (topR S f j) ∧ l = .int .u32 ((bset (mainS S f j) j : Nat) : Int) ∧ Below (w.heap.size + 1) W0 wr ∧ Hid (wr.heap[w.heap.size + 1]? = some (.cells #[.int .u32 ((bset f j : Nat) : Int)] 106 (0, 0)))) (fun _ _ i _ => m - (intOf i).toNat)
  case atStart => exact ⟨0, by omega, rfl, rfl, rfl, Below.refl _ _, HWs.out⟩
  case round =>
    obtain ⟨j, hj, rfl, rfl, rfl, hb, HSB⟩ := hrel
    have hsz : w.heap.size + 2 ≤ wr.heap.size := by have := hb.size; rw [HWz.out] at this; exact this
    have hbw : Below w.heap.size w wr := hwW.trans (hb.mono (by omega))
    have hne1 : ¬ w.heap.size = wr.heap.size := by omega
    have hne2 : ¬ w.heap.size + 1 = wr.heap.size := by omega
    by_cases hlt : j < m
    · have hlt2 : j < rs.length := HM.out ▸ hlt
      obtain ⟨ab, ao, rfl, hblk, hcell⟩ := (Sl.below HR0.out hbw).at_ (k := j) (fun _ => rfl) hlt2
      have hlt3 : j < S.rules.length := by rw [HSR.out]; exact hlt2
      have HRj := HHR.out j hlt3
      have HOj := HHOK.out j hlt3
      obtain ⟨r, hr⟩ : ∃ t, S.rules[j] = t := ⟨_, rfl⟩
      have hr' : rs[j] = r := by rw [← hr]; congr 1; exact HSR.out.symm
      rw [hr'] at hcell
      rw [hr] at HRj HOj
      have c0 : wr.cell? ⟨ab, ao + j * 5, none⟩ = some (.slice r.wa r.when_.length r.wc) := hcell 0 _ rfl
      have c1 : wr.cell? ⟨ab, ao + j * 5 + 1, none⟩ = some (.int .i64 r.kinds) := hcell 1 _ rfl
      have c2 : wr.cell? ⟨ab, ao + j * 5 + 2, none⟩ = some (.int .i64 r.rank) := hcell 2 _ rfl
      have c3 : wr.cell? ⟨ab, ao + j * 5 + 3, none⟩ = some (.slice r.ua r.unless_.length r.uc) := hcell 3 _ rfl
      have c4 : wr.cell? ⟨ab, ao + j * 5 + 4, none⟩ = some (.int .i64 r.says) := hcell 4 _ rfl
      have cO : wr.cell? ⟨w.heap.size, 5, none⟩ = some (.int .u32 (O : Int)) := by rw [hb.cell (p := ⟨w.heap.size, 5, none⟩) (by simp)]; exact HW5.out
      have cOo : ∀ o, (wr.alloc o).cell? ⟨w.heap.size, 5, none⟩ = some (.int .u32 (O : Int)) := fun o => by rw [World.cell?_alloc_lt _ _ _ (by simp; omega)]; exact cO
      have cS : wr.cell? ⟨w.heap.size + 1, 0, none⟩ = some (.int .u32 ((bset f j : Nat) : Int)) := cell_of_one HSB.out
      have fS : wr.frozen? ⟨w.heap.size + 1, 0, none⟩ = false := free_of_one HSB.out
      have hkd : 0 ≤ r.kinds ∧ r.kinds < 16 := by
        refine ⟨HOj.out.kinds.1, Int.lt_of_lt_of_le HOj.out.kinds.2 ?_⟩
        obtain h | h | h | h : k = 1 ∨ k = 2 ∨ k = 3 ∨ k = 4 := by omega
        all_goals (rw [HSK.out, h]; decide)
      have q2 := i64_is0 r kind hkd.1 hkd.2
      have hf31 : bset f j < 2147483648 := Nat.lt_of_lt_of_le (bset_lt f j) (pow_le_bset (by omega))
      have HUN := fun (W : World) h1 h2 h3 => HHU.out W (bset f j) r (w.heap.size + 1) (HSR.out ▸ HRj.out.mem) h1 (by omega) h2 h3 (fun u hu => by have := HOj.out.unl u hu; omega)
      have HUNN := Lib.hid HUN
      have q1 := (HHX.out j (by omega)).out
      clear hcell hr hr' HHU HUN
      by_cases hh : hold j = true
      · rw [hh] at q1
        simp only [Bool.not_true] at q1
        by_cases hkb : kbit r kind = true
        · rw [hkb] at q2
          simp only [Bool.not_true] at q2
          go_wp2_with fail
          refine (HUNN.out _ ?_ ?_ ?_).out.mono ?_
          · (repeat (first | exact Below.refl _ _ | assumption | (refine Below.alloc ?_ (by first | omega | (simp; omega) | (simp; done)) _) | (refine Below.setCell ?_ (by first | omega | (simp; omega) | (simp; done)) _) | (refine Below.drew ?_) | (refine belowN ?_ _) | (refine Below.trans ?_ (Below.mono ‹Below _ _ _› (by first | omega | (simp; omega) | (simp; done))))))
          · rw [World.cell?_alloc_lt _ _ _ (by simp; omega)]; exact cS
          · exact (by first | omega | (simp; omega) | (simp; done))
          rintro e w2 ⟨rfl, hb2⟩
          have hz2 : w.heap.size + 2 ≤ w2.heap.size := by have := hb2.size; simp at this; omega
          by_cases hun : (r.unless_.any fun u => (bset f j).testBit u.toNat) = true
          · rw [hun]
            have hfj : Hid (f j = false) := by show _ = _; rw [HRj.out.eq, hun]; simp
            have HSB2 : Hid (w2.heap[w.heap.size + 1]? = some (.cells #[.int .u32 ((bset f j : Nat) : Int)] 106 (0, 0))) := by
              show _ = _
              rw [hb2.block _ (by simp; omega), Below.heap_alloc _ _ _ (by omega)]; exact HSB.out
            go_wp2
            go_roundw
            case rel => exact ⟨j + 1, by omega, by go_num, by rw [(main_old (s := S) (n := j) (.inl hfj.out)).1], by rw [(main_old (s := S) (n := j) (.inl hfj.out)).2], by (repeat (first | exact Below.refl _ _ | assumption | (refine Below.alloc ?_ (by first | omega | (simp; omega) | (simp; done)) _) | (refine Below.setCell ?_ (by first | omega | (simp; omega) | (simp; done)) _) | (refine Below.drew ?_) | (refine belowN ?_ _) | (refine Below.trans ?_ (Below.mono ‹Below _ _ _› (by first | omega | (simp; omega) | (simp; done)))))), by rw [bset_same hfj.out]; exact HSB2⟩
            case measure => simp [intOf]; omega
          · simp only [Bool.not_eq_true] at hun
            have hfj : Hid (f j = true) := by show _ = _; rw [HRj.out.eq, hun, hh, hkb]; rfl
            have hblk2 : w2.heap[w.heap.size + 1]? = some (.cells #[.int .u32 ((bset f j : Nat) : Int)] 106 (0, 0)) := by
              rw [hb2.block _ (by simp; omega), Below.heap_alloc _ _ _ (by omega)]; exact HSB.out
            have cS2 : w2.cell? ⟨w.heap.size + 1, 0, none⟩ = some (.int .u32 ((bset f j : Nat) : Int)) := cell_of_one hblk2
            have fS2 : w2.frozen? ⟨w.heap.size + 1, 0, none⟩ = false := free_of_one hblk2
            have HB2 := Lib.hid hblk2
            have cR2 : w2.cell? ⟨wr.heap.size, 2, none⟩ = some (.int .i64 r.rank) := by rw [hb2.cell (p := ⟨wr.heap.size, 2, none⟩) (by simp)]; simp [go_sem]
            have hor := bset_succ_or f j (by omega)
            have hkeep : Below (w.heap.size + 1) W0 w2 := by (repeat (first | exact Below.refl _ _ | assumption | (refine Below.alloc ?_ (by first | omega | (simp; omega) | (simp; done)) _) | (refine Below.setCell ?_ (by first | omega | (simp; omega) | (simp; done)) _) | (refine Below.drew ?_) | (refine belowN ?_ _) | (refine Below.trans ?_ (Below.mono ‹Below _ _ _› (by first | omega | (simp; omega) | (simp; done))))))
            rw [hun]
            clear hblk2
            obtain ⟨T, hT⟩ : ∃ T, T = topR S f j := ⟨_, rfl⟩
            obtain ⟨M, hM⟩ : ∃ M, M = bset (mainS S f j) j := ⟨_, rfl⟩
            rw [← hT, ← hM]
            have HT := Lib.hid hT; have HMM := Lib.hid hM
            clear hT hM
            have hrk := HRj.out.rnk
            have HRK := Lib.hid hrk
            have hMl : M < 4294967296 := by
              rw [HMM.out]; exact Nat.lt_of_lt_of_le (bset_lt _ _) (Nat.le_trans (pow_le_bset (by omega)) (by decide))
            have hor2 : bits BinOp.or IntKind.u32 (M : Int) (2 ^ j % 4294967296) = ((M ||| 2 ^ j : Nat) : Int) := by rw [HMM.out]; exact bset_succ_or' _ j (by omega)
            have HBN : Hid (∀ W : World, W.heap = (w2.setCell ⟨w.heap.size + 1, 0, none⟩ (Value.int IntKind.u32 ((bset f j ||| 2 ^ j : Nat) : Int))).heap → W.heap[w.heap.size + 1]? = some (.cells #[.int .u32 ((bset f (j + 1) : Nat) : Int)] 106 (0, 0))) := fun W hW => by
              rw [hW, ← bset_next hfj.out]; exact one_setCell HB2.out
            clear hrk
            rcases Int.lt_trichotomy T r.rank with hlt4 | heq | hgt
            · have d1 : decide (T < r.rank) = true := by simpa using hlt4
              have HN := Lib.hid (main_new (s := S) (f := f) (n := j) hfj.out (by rw [← HT.out, HRK.out]; exact hlt4))
              go_wp2
              go_region
              go_wp2
              go_quiet (fail)
              go_wp2
              go_roundw
              case rel => exact ⟨j + 1, by omega, by go_num, by rw [HN.out.1, HRK.out], by rw [HN.out.2, pow_mod32 j (by omega)], by (repeat (first | exact Below.refl _ _ | assumption | (refine Below.alloc ?_ (by first | omega | (simp; omega) | (simp; done)) _) | (refine Below.setCell ?_ (by first | omega | (simp; omega) | (simp; done)) _) | (refine Below.drew ?_) | (refine belowN ?_ _) | (refine Below.trans ?_ (Below.mono ‹Below _ _ _› (by first | omega | (simp; omega) | (simp; done)))))), HBN.out _ rfl⟩
              case measure => simp [intOf]; omega
            · have d1 : decide (T < r.rank) = false := by simp; omega
              have d2 : (r.rank == T) = true := by simp [heq]
              have HN := Lib.hid (main_add (s := S) (f := f) (n := j) hfj.out (by rw [← HT.out, HRK.out]; exact heq))
              clear heq
              go_wp2
              go_region
              go_wp2
              go_roundw
              case rel => exact ⟨j + 1, by omega, by go_num, by rw [HN.out.1, HT.out], by rw [HN.out.2, HMM.out], by (repeat (first | exact Below.refl _ _ | assumption | (refine Below.alloc ?_ (by first | omega | (simp; omega) | (simp; done)) _) | (refine Below.setCell ?_ (by first | omega | (simp; omega) | (simp; done)) _) | (refine Below.drew ?_) | (refine belowN ?_ _) | (refine Below.trans ?_ (Below.mono ‹Below _ _ _› (by first | omega | (simp; omega) | (simp; done)))))), HBN.out _ rfl⟩
              case measure => simp [intOf]; omega
            · have d1 : decide (T < r.rank) = false := by simp; omega
              have d2 : (r.rank == T) = false := by simp; omega
              have HN := Lib.hid (main_old (s := S) (f := f) (n := j) (.inr (by rw [← HT.out, HRK.out]; exact hgt)))
              go_wp2
              go_region
              go_wp2
              go_roundw
              case rel => exact ⟨j + 1, by omega, by go_num, by rw [HN.out.1, HT.out], by rw [HN.out.2, HMM.out], by (repeat (first | exact Below.refl _ _ | assumption | (refine Below.alloc ?_ (by first | omega | (simp; omega) | (simp; done)) _) | (refine Below.setCell ?_ (by first | omega | (simp; omega) | (simp; done)) _) | (refine Below.drew ?_) | (refine belowN ?_ _) | (refine Below.trans ?_ (Below.mono ‹Below _ _ _› (by first | omega | (simp; omega) | (simp; done)))))), HBN.out _ rfl⟩
              case measure => simp [intOf]; omega
        · simp only [Bool.not_eq_true] at hkb
          rw [hkb] at q2
          have hfj : Hid (f j = false) := by show _ = _; rw [HRj.out.eq, hkb]; simp
          go_wp2
          go_roundw
          case rel => exact ⟨j + 1, by omega, by go_num, by rw [(main_old (s := S) (n := j) (.inl hfj.out)).1], by rw [(main_old (s := S) (n := j) (.inl hfj.out)).2], by (repeat (first | exact Below.refl _ _ | assumption | (refine Below.alloc ?_ (by first | omega | (simp; omega) | (simp; done)) _) | (refine Below.setCell ?_ (by first | omega | (simp; omega) | (simp; done)) _) | (refine Below.drew ?_) | (refine belowN ?_ _) | (refine Below.trans ?_ (Below.mono ‹Below _ _ _› (by first | omega | (simp; omega) | (simp; done)))))), by rw [bset_same hfj.out]; exact (Below.heap_alloc _ _ _ (by omega)).trans HSB.out⟩
          case measure => simp [intOf]; omega
      · simp only [Bool.not_eq_true] at hh
        rw [hh] at q1
        have hfj : Hid (f j = false) := by show _ = _; rw [HRj.out.eq, hh]; simp
        go_wp2
        go_roundw
        case rel => exact ⟨j + 1, by omega, by go_num, by rw [(main_old (s := S) (n := j) (.inl hfj.out)).1], by rw [(main_old (s := S) (n := j) (.inl hfj.out)).2], by (repeat (first | exact Below.refl _ _ | assumption | (refine Below.alloc ?_ (by first | omega | (simp; omega) | (simp; done)) _) | (refine Below.setCell ?_ (by first | omega | (simp; omega) | (simp; done)) _) | (refine Below.drew ?_) | (refine belowN ?_ _) | (refine Below.trans ?_ (Below.mono ‹Below _ _ _› (by first | omega | (simp; omega) | (simp; done)))))), by rw [bset_same hfj.out]; exact (Below.heap_alloc _ _ _ (by omega)).trans HSB.out⟩
        case measure => simp [intOf]; omega
    · obtain rfl : j = m := by omega
      go_wp2
      go_ret
      exact ⟨rfl, hbw⟩
end Go.Proofs.Ytidlmbajpbbilaa

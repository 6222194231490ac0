/- A drawn region: first operations that read and call (one walk, in a class of worlds), then a tail that must come last, in its order. Plain, and within a round. -/
import Derived.Test.YtidlmbajpbbilaaZ05Iter
import Derived.StillTail
import Derived.Test.YtidlmbajpbbilaaScSB
import Derived.DeepKeys4
import Derived.ChangeKeysEq
import Derived.Maps.RangeWalk
import Derived.Maps.OwnIn
namespace Go.Proofs.Ytidlmbajpbbilaa
open Go.RowKit

section
variable {P : Program} {ops : Array Oper} {md : Region.Mode} {C : World → Prop}
def wpAnyQL (P : Program) (md : Region.Mode) (ops : Array Oper) (C : World → Prop) (n : Nat) (L : Array Bool → Act → Prop) : Nat → Array Bool → Act → Prop
  | 0, listed, a => L listed a
  | f + 1, listed, a =>
    Region.ready md ops listed ≠ [] ∧ ∀ i ∈ Region.ready md ops listed, i < n ∧ qOp P ops C i (wpAnyQL P md ops C n L f (listed.setIfInBounds i true)) a
theorem wpAny_of_headQ {n g : Nat} {L : Array Bool → Act → Prop} {Q' : Exit → Act → World → Prop} (hL : ∀ listed a w, C w → L listed a → wpAny P md ops Q' g listed a w) :
    ∀ (f : Nat) (listed : Array Bool) (a : Act) (w : World), C w → wpAnyQL P md ops C n L f listed a → wpAny P md ops Q' (f + g) listed a w
  | 0, listed, a, w, hC, h => by rw [Nat.zero_add]; exact hL _ _ _ hC h
  | f + 1, listed, a, w, hC, h => by
    rw [show f + 1 + g = (f + g) + 1 by omega]
    exact ⟨fun h0 => absurd h0 h.1, fun i hi => wpOp_of_qOp hC (fun a' w' hw' h' => wpAny_of_headQ hL f _ a' w' hw' h') (h.2 i hi).2⟩
theorem wpAnyQL_first {n i : Nat} {oi : Oper} {v : Value} {L : Array Bool → Act → Prop} (hi : ops[i]? = some oi) (hsel : ∀ (j : Nat) (o : Oper) cs b, ops[j]? = some o → o.op ≠ .select cs b)
    (hs : Region.sinkB md ops n = true) (hc : Region.chainB md ops n = true) (hn : n < ops.size) (hin : i < n)
    (hdone : ∀ listed a, L listed a → ∀ j ∈ Region.ready md ops listed, n ≤ j) :
    ∀ (f : Nat) (listed : Array Bool) (a : Act), HeadInv md ops n listed →
      (∀ j oj, ops[j]? = some oj → j ≠ i → listed.getD j true = false → (∀ e ∈ oj.after, Region.binds md e = true → e.on ≠ i) → oi.apart ops oj = true) →
      i ∈ Region.ready md ops listed → YieldsIn P ops C oi v a →
      wpAnyQL P md ops C n L f (listed.setIfInBounds i true) (a.put oi.dst v) → wpAnyQL P md ops C n L (f + 1) listed a := by
  intro f
  induction f with
  | zero =>
    intro listed a inv _ hr hy H
    have hun := (mem_ready.1 hr).1
    refine ⟨fun h => (by rw [h] at hr; cases hr), fun j hj => ?_⟩
    have hjn : j < n := by
      rcases Nat.lt_or_ge j n with h | h
      · exact h
      · exact absurd hj (tail_waits hs hc hn inv _ i rfl hin hun j h)
    refine ⟨hjn, ?_⟩
    by_cases hji : j = i
    · subst hji; exact hy.qOp hi H
    · have := hdone _ _ H j (ready_mono hj hji)
      omega
  | succ f ih =>
    intro listed a inv hfree hr hy H
    have hun := (mem_ready.1 hr).1
    refine ⟨fun h => (by rw [h] at hr; cases hr), fun j hj => ?_⟩
    have hjn : j < n := by
      rcases Nat.lt_or_ge j n with h | h
      · exact h
      · exact absurd hj (tail_waits hs hc hn inv _ i rfl hin hun j h)
    refine ⟨hjn, ?_⟩
    by_cases hji : j = i
    · subst hji; exact hy.qOp hi H
    · have h1 := (H.2 j (ready_mono hj hji)).2
      obtain ⟨hjun, oj, hoj, hall⟩ := mem_ready.1 hj
      have hnot : ∀ e ∈ oj.after, Region.binds md e = true → e.on ≠ i := fun e he hb heq => by
        have h1 := hall e he hb
        rw [heq, getD_both hun] at h1
        cases h1
      have h2 := qOp_put hoj (hfree j oj hoj hji hjun hnot) (fun cs b => hsel i oi cs b hi) (fun cs b => hsel j oj cs b hoj) hy h1
      have hfree' : ∀ k ok, ops[k]? = some ok → k ≠ i → (listed.setIfInBounds j true).getD k true = false →
          (∀ e ∈ ok.after, Region.binds md e = true → e.on ≠ i) → oi.apart ops ok = true := fun k ok hk hki hun hno => by
        refine hfree k ok hk hki ?_ hno
        by_cases hjk : j = k
        · subst hjk; exact hjun
        · rw [getD_set_ne true hjk] at hun; exact hun
      refine qOp_mono (fun a' h3 => ih (listed.setIfInBounds j true) a' (inv.set hj hjn) hfree' (ready_mono hr (Ne.symm hji)) h3.1 ?_) h2
      rw [Array.setIfInBounds_comm _ _ hji]
      exact h3.2
theorem wpAnyQL_lex {n g : Nat} {Lq : Act → Prop} (hsel : Region.noSelect ops = true) (hs : Region.sinkB md ops n = true) (hc : Region.chainB md ops n = true) (hn : n < ops.size) :
    ∀ (l : List Oper) (k : Nat) (listed : Array Bool) (a : Act), (∀ j, j < l.length → l[j]? = ops[k + j]?) → k + l.length = n → HeadInv md ops n listed →
    Region.lexHead md ops g l.length k listed = true → wpQuiet P ops C Lq l a →
    wpAnyQL P md ops C n (fun listed' a' => Region.seqB md ops g n listed' = true ∧ Lq a') l.length listed a
  | [], k, listed, a, _, hk, _, hB, h => by
    have : k = n := by simpa using hk
    subst this
    exact ⟨by simpa [Region.lexHead] using hB, h⟩
  | o :: l, k, listed, a, hl, hk, inv, hB, h => by
    have h0 : ops[k]? = some o := by simpa using (hl 0 (by simp)).symm
    simp only [List.length_cons, Region.lexHead, Bool.and_eq_true] at hB
    obtain ⟨⟨hr, hf⟩, hB'⟩ := hB
    have hkn : k < n := by simp only [List.length_cons] at hk; omega
    have hr' : k ∈ Region.ready md ops listed := by simpa using hr
    have hst : qOp P ops C k (wpQuiet P ops C Lq l) a := by unfold qOp; simp only [h0]; exact h
    obtain ⟨v, hy, hK⟩ := yieldsIn_of_qOp h0 hst
    exact wpAnyQL_first h0 (Region.noSelect_spec hsel) hs hc hn hkn (fun listed' a' hL => seqB_ready hL.1) l.length listed a inv (Region.free_spec h0 hf) hr' hy
      (wpAnyQL_lex hsel hs hc hn l (k + 1) _ _ (fun j hj => by have := hl (j + 1) (by simp; omega); simpa [Nat.add_assoc, Nat.add_comm 1 j] using this) (by simp only [List.length_cons] at hk; omega) (inv.set hr' hkn) hB' hK)
theorem tail_head {l : List Oper} {a : Act} {Lq : Act → Prop} (n : Nat) (hB : Region.lexTailB .any l.toArray n = true) (h : wpQuiet P l.toArray C Lq (l.take n) a) :
    n + (l.toArray.size - n) = l.toArray.size ∧ (l.drop n).length = l.toArray.size - n ∧
    wpAnyQL P .any l.toArray C n (fun listed' a' => Region.seqB .any l.toArray (l.toArray.size - n) n listed' = true ∧ Lq a') n (Array.replicate l.toArray.size false) a := by
  simp only [Region.lexTailB, Bool.and_eq_true, decide_eq_true_eq] at hB
  obtain ⟨⟨⟨⟨hsel, hn⟩, hs⟩, hc⟩, hlex⟩ := hB
  have hn' : n < l.length := by simpa using hn
  have htl : (l.take n).length = n := by simp; omega
  have hdl : (l.drop n).length = l.toArray.size - n := by simp
  have inv0 : HeadInv .any l.toArray n (Array.replicate l.toArray.size false) :=
    ⟨by simp, fun j oj _ hl => (by rw [getD_replicate_false] at hl; cases hl), fun t _ ht => getD_in (by simpa using ht) (getD_replicate_false _ _)⟩
  have H := wpAnyQL_lex (md := .any) (g := l.toArray.size - n) hsel hs hc hn (l.take n) 0 _ a (fun j hj => by
    have hj' : j < n := by rw [htl] at hj; exact hj
    simp [hj']) (by simpa using htl) inv0 (by rw [htl]; exact hlex) h
  rw [htl] at H
  exact ⟨by omega, hdl, H⟩
end
theorem wp_region_tail {P : Program} {id : Nat} {Q : Exit → Act → World → Prop} {a : Act} {w : World} {l : List Oper} (n : Nat) (hm : P.follows .mixedOrders = true) (hB : Region.lexTailB .any l.toArray n = true)
    (h : wpQuiet P l.toArray (fun w' => ∃ E, w' = World.ext w E) (fun a' => ∀ w', (∃ E, w' = World.ext w E) → wpList P l.toArray Q (l.drop n) a' w') (l.take n) a) : (Code.region id l.toArray true).wp P Q a w := by
  obtain ⟨hsz, hdl, H⟩ := tail_head n hB h
  refine wp_region_any hm ?_
  have := wpAny_of_headQ (Q' := Q) (g := l.toArray.size - n) (fun listed a' w' hw' hL => by
    have := wpAny_of_seq (md := .any) (Q' := Q) (l.drop n) n listed a' w' (fun j => by simp [List.getElem?_drop]) (by rw [hdl]; exact hL.1) (hL.2 w' hw')
    rwa [hdl] at this) _ _ _ _ (ext_of ((Below.refl _ w).drew)) H
  rw [hsz] at this
  exact this
/-! within a round -/
theorem wpAnyIn_of_headQ {P : Program} {lp m : Nat} {md : Region.Mode} {ops : Array Oper} {C : World → Prop} (hnd : noDefer ops = true) {n g : Nat} {L : Array Bool → Act → Prop} {Q' : Exit → Act → World → Prop}
    (hL : ∀ listed a w, C w → L listed a → wpAnyIn (Fence.wide.inRound lp) m P md ops Q' g listed a w) :
    ∀ (f : Nat) (listed : Array Bool) (a : Act) (w : World), C w → wpAnyQL P md ops C n L f listed a → wpAnyIn (Fence.wide.inRound lp) m P md ops Q' (f + g) listed a w
  | 0, listed, a, w, hC, h => by rw [Nat.zero_add]; exact hL _ _ _ hC h
  | f + 1, listed, a, w, hC, h => by
    rw [show f + 1 + g = (f + g) + 1 by omega]
    refine ⟨fun h0 => absurd h0 h.1, fun i hi => ?_⟩
    have hq := (h.2 i hi).2
    have ih := wpAnyIn_of_headQ (P := P) (lp := lp) (m := m) (md := md) (n := n) hnd hL f (listed.setIfInBounds i true)
    unfold qOp at hq
    unfold wpOpIn
    cases ho : ops[i]? with
    | none => simp only [ho] at hq ⊢; exact ih a w hC hq
    | some o =>
      simp only [ho] at hq ⊢
      split
      · rename_i hw; simp only [hw, if_true] at hq
        exact Oper.wpIn_of_quietR (noDefer_spec hnd ho) hC (fun a' w' hC' hk => ih a' w' hC' hk) hq
      · rename_i hw; simp only [hw] at hq
        exact ⟨fun _ _ => trivial, ih _ w hC hq⟩
theorem wpAnyIn_of_seq {F : Fence} {m : Nat} {P : Program} {md : Region.Mode} {ops : Array Oper} {Q' : Exit → Act → World → Prop} : ∀ (l : List Oper) (k : Nat) (listed : Array Bool) (a : Act) (w : World), (∀ j, l[j]? = ops[k + j]?) →
    Region.seqB md ops l.length k listed = true → wpListIn F m P ops Q' l a w → wpAnyIn F m P md ops Q' l.length listed a w
  | [], _, _, _, _, _, hB, h => ⟨by simpa [Region.seqB] using hB, h⟩
  | o :: l, k, listed, a, w, hl, hB, h => by
    have h0 : ops[k]? = some o := by simpa using (hl 0).symm
    simp only [List.length_cons, Region.seqB, Bool.and_eq_true, decide_eq_true_eq] at hB
    refine ⟨fun h1 => (by rw [hB.1] at h1; cases h1), fun i hi => ?_⟩
    rw [hB.1] at hi
    have hik : i = k := by simpa using hi
    subst hik
    have hw : wpOpIn F m P ops Q' i (wpListIn F m P ops Q' l) a w := by unfold wpOpIn; simp only [h0]; exact h
    exact wpOpIn_mono (fun a' w' h' => wpAnyIn_of_seq l (i + 1) _ a' w' (fun j => by have := hl (j + 1); simpa [Nat.add_assoc, Nat.add_comm 1 j] using this) hB.2 h') hw
theorem wpIn_region_tail {P : Program} {lp m : Nat} {id : Nat} {Q : Exit → Act → World → Prop} {a : Act} {w : World} {l : List Oper} (n : Nat) (hm : P.follows .mixedOrders = true) (hB : Region.lexTailB .any l.toArray n = true) (hnd : noDefer l.toArray = true)
    (h : wpQuiet P l.toArray (fun w' => ∃ E, w' = World.ext w E) (fun a' => ∀ w', (∃ E, w' = World.ext w E) → wpListIn (Fence.wide.inRound lp) m P l.toArray Q (l.drop n) a' w') (l.take n) a) : (Code.region id l.toArray true).wpIn (Fence.wide.inRound lp) m P Q a w := by
  obtain ⟨hsz, hdl, H⟩ := tail_head n hB h
  refine wpIn_region_any hm ?_
  have := wpAnyIn_of_headQ (Q' := Q) (g := l.toArray.size - n) hnd (fun listed a' w' hw' hL => by
    have := wpAnyIn_of_seq (md := .any) (Q' := Q) (l.drop n) n listed a' w' (fun j => by simp [List.getElem?_drop]) (by rw [hdl]; exact hL.1) (hL.2 w' hw')
    rwa [hdl] at this) _ _ _ _ (ext_of ((Below.refl _ w).drew)) H
  rw [hsz] at this
  exact this
end Go.Proofs.Ytidlmbajpbbilaa
namespace Go.Proofs.Ytidlmbajpbbilaa
open Go.RowKit

theorem laidTry : laidOutB Try.prog = true := by kernel_rfl
theorem keyPoint : Go.Maps.Keyed Try.prog 149 := Go.Maps.Keyed.of_law (deep_law_laid laidTry (m := 2) (by omega) (of_decide_eq_true (by kernel_rfl)) (by kernel_rfl) (by kernel_rfl))
theorem keyRules : Go.Maps.Keyed Try.prog 106 := Go.Maps.int_keyed Try.underlying106
abbrev ptv (h k : Int) : Value := .agg #[.int .u32 h, .int .i64 k]
def pkey (h k : Int) : Lit := .string (keyBytes [.int .u32 h, .int .i64 k])
theorem pkey_of {h k : Int} (hh : (Lit.int .u32 h).wf = true) (hk : (Lit.int .i64 k).wf = true) : keyOf Try.prog 149 (ptv h k) = some (pkey h k) := by
  have h1 : Try.prog.keyType 149 = true := by kernel_rfl
  have h2 : Try.prog.cellsOf 149 = 2 := by kernel_rfl
  have h3 : Try.prog.cellsOf 106 = 1 := by kernel_rfl
  have h4 : Try.prog.cellsOf 3 = 1 := by kernel_rfl
  have hsz : ∃ n, Try.prog.types.size = n + 1 := ⟨_, (by kernel_rfl : Try.prog.types.size = (Try.prog.types.size - 1) + 1)⟩
  obtain ⟨n, hn⟩ := hsz
  simp only [keyOf, Try.underlying149, h1, Value.formed, h2, hn]
  simp [Program.keyLits, Try.underlying149, Try.underlying106, Try.underlying3, h2, h3, h4, hh, hk, Value.cells, pkey]
set_option maxRecDepth 100000 in
theorem pkey_inv {v : Value} {l : Lit} (h : keyOf Try.prog 149 v = some l) : ∃ a k, v = ptv a k ∧ (Lit.int .u32 a).wf = true ∧ (Lit.int .i64 k).wf = true := by
  have h1 : Try.prog.keyType 149 = true := by kernel_rfl
  have h2 : Try.prog.cellsOf 149 = 2 := by kernel_rfl
  have h3 : Try.prog.cellsOf 106 = 1 := by kernel_rfl
  have h4 : Try.prog.cellsOf 3 = 1 := by kernel_rfl
  have hsz : ∃ n, Try.prog.types.size = n + 1 := ⟨_, (by kernel_rfl : Try.prog.types.size = (Try.prog.types.size - 1) + 1)⟩
  obtain ⟨n, hn⟩ := hsz
  simp only [keyOf, Try.underlying149, h1, hn, Bool.true_and] at h
  split at h
  · rename_i hf
    cases v <;> simp [Value.formed, Try.underlying149, h2] at hf
    rename_i cs
    obtain ⟨cs⟩ := cs
    match cs, hf with
    | [x, y], _ =>
      simp [Program.keyLits, Try.underlying149, Try.underlying106, Try.underlying3, h2, h3, h4, Value.cells] at h
      cases x <;> simp only [Option.bind_none, reduceCtorEq] at h
      rename_i q a
      split at h <;> simp only [Option.bind_none, Option.bind_some, reduceCtorEq, Function.comp] at h
      rename_i hq
      cases y <;> simp only [Option.bind_none, Option.map_none, reduceCtorEq] at h
      split at h
      · rename_i hy
        obtain ⟨rfl, h6⟩ := hy
        obtain ⟨rfl, h5⟩ := hq
        exact ⟨_, _, rfl, h5, h6⟩
      · simp at h
  · cases h
theorem pkey_inj {h k h' k' : Int} (hh : (Lit.int .u32 h).wf = true) (hk : (Lit.int .i64 k).wf = true) (hh' : (Lit.int .u32 h').wf = true) (hk' : (Lit.int .i64 k').wf = true) (e : pkey h k = pkey h' k') : h = h' ∧ k = k' := by
  have := keyPoint.inj (pkey_of hh hk) (e ▸ pkey_of hh' hk')
  simp [ptv] at this
  exact this
theorem wfu {n : Nat} (h : n < 4294967296) : (Lit.int .u32 (n : Int)).wf = true := WalkArith.wf_u32 (by omega)
theorem wfi {n : Nat} (h : n < 1000000) : (Lit.int .i64 (n : Int)).wf = true := WalkArith.wf_i64 (by omega)

/-- what is said of rules that hold, by a school without the rules O -/
def ansH (s : Sch) (O hold : Nat) (kind : Int) : Nat := bset (saidTo s (bset (mainS s (sp s (fun i => hold.testBit i && !O.testBit i) kind) s.rules.length) s.rules.length) s.rules.length) 20
theorem ansN_eq (s : Sch) (O : Nat) (kind : Int) (ch : List Int) : ansN s O kind ch = ansH s O (applN s ch) kind := rfl
theorem ansH_lt (s : Sch) (O hold : Nat) (kind : Int) : ansH s O hold kind < 4294967296 := Nat.lt_of_lt_of_le (bset_lt _ _) (by decide)

abbrev DW := DataW Unit
/-- a map whose keys are the numbers in S -/
def HM (D : DW) (S : Nat → Prop) : Prop := Go.Maps.IsMap D ∧ ∀ kl, Go.Maps.has D kl = true ↔ ∃ h : Nat, S h ∧ kl = .int .u32 (h : Int)
theorem HM.empty : HM (.map []) (fun _ => False) := ⟨Go.Maps.isMap_empty, fun kl => ⟨fun h => by simp [Go.Maps.has] at h, fun ⟨_, h, _⟩ => h.elim⟩⟩
theorem HM.put {D : DW} {S : Nat → Prop} (h : HM D S) (x : Nat) (d : DW) : HM (D.put (.int .u32 (x : Int)) d) (fun y => S y ∨ y = x) := by
  refine ⟨h.1.put _ _, fun kl => ?_⟩
  by_cases e : kl = .int .u32 (x : Int)
  · subst e
    exact ⟨fun _ => ⟨x, .inr rfl, rfl⟩, fun _ => Go.Maps.has_put_same h.1 (show WideAt.IsKeyLit (.int .u32 (x : Int)) from trivial) d⟩
  · rw [Go.Maps.has_put_other e, h.2]
    constructor
    · rintro ⟨y, hy, rfl⟩; exact ⟨y, .inl hy, rfl⟩
    · rintro ⟨y, hy | rfl, rfl⟩
      · exact ⟨y, hy, rfl⟩
      · exact absurd rfl e
theorem HM.congr {D : DW} {S S' : Nat → Prop} (h : HM D S) (e : ∀ x, S x ↔ S' x) : HM D S' := by
  refine ⟨h.1, fun kl => (h.2 kl).trans ?_⟩
  constructor
  · rintro ⟨x, hx, rfl⟩; exact ⟨x, (e x).1 hx, rfl⟩
  · rintro ⟨x, hx, rfl⟩; exact ⟨x, (e x).2 hx, rfl⟩
/-- a map of readings -/
structure RM (s : Sch) (D : DW) (S : Nat → Nat → Prop) : Prop where
  is : Go.Maps.IsMap D
  has : ∀ kl, Go.Maps.has D kl = true ↔ ∃ h k : Nat, S h k ∧ kl = pkey (h : Int) (k : Int)
  wf : ∀ h k, S h k → h < 4294967296 ∧ k < 1000000
  val : ∀ (h k : Nat), S h k → ∀ z, D.atKey (pkey (h : Int) (k : Int)) z = .lit (.int .u32 ((ansH s 0 h (k : Int) : Nat) : Int))
theorem pkey_lit (h k : Int) : WideAt.IsKeyLit (pkey h k) := trivial
theorem pkey_nat {h k h' k' : Nat} (a : h < 4294967296 ∧ k < 1000000) (b : h' < 4294967296 ∧ k' < 1000000) (e : pkey (h : Int) (k : Int) = pkey (h' : Int) (k' : Int)) : h = h' ∧ k = k' := by
  have := pkey_inj (wfu a.1) (wfi a.2) (wfu b.1) (wfi b.2) e
  omega
theorem RM.empty (s : Sch) : RM s (.map []) (fun _ _ => False) := ⟨Go.Maps.isMap_empty, fun kl => ⟨fun h => by simp [Go.Maps.has] at h, fun ⟨_, _, h, _⟩ => h.elim⟩, fun _ _ h => h.elim, fun _ _ h => h.elim⟩
theorem RM.put {s : Sch} {D : DW} {S : Nat → Nat → Prop} (h : RM s D S) (x y : Nat) (hx : x < 4294967296 ∧ y < 1000000) :
    RM s (D.put (pkey (x : Int) (y : Int)) (.lit (.int .u32 ((ansH s 0 x (y : Int) : Nat) : Int)))) (fun a b => S a b ∨ (a = x ∧ b = y)) := by
  refine ⟨h.is.put _ _, fun kl => ?_, ?_, ?_⟩
  · by_cases e : kl = pkey (x : Int) (y : Int)
    · subst e
      exact ⟨fun _ => ⟨x, y, .inr ⟨rfl, rfl⟩, rfl⟩, fun _ => Go.Maps.has_put_same h.is (pkey_lit _ _) _⟩
    · rw [Go.Maps.has_put_other e, h.has]
      constructor
      · rintro ⟨a, b, hy, rfl⟩; exact ⟨a, b, .inl hy, rfl⟩
      · rintro ⟨a, b, hy | ⟨rfl, rfl⟩, rfl⟩
        · exact ⟨a, b, hy, rfl⟩
        · exact absurd rfl e
  · rintro a b (hab | ⟨rfl, rfl⟩)
    · exact h.wf a b hab
    · exact hx
  · intro a b hab z
    by_cases e : pkey (a : Int) (b : Int) = pkey (x : Int) (y : Int)
    · have hab2 : a = x ∧ b = y := by
        rcases hab with hab | hab
        · exact pkey_nat (h.wf a b hab) hx e
        · exact hab
      obtain ⟨rfl, rfl⟩ := hab2
      rw [Go.Maps.atKey_put_same h.is (pkey_lit _ _)]
    · rw [Go.Maps.atKey_put_other e]
      rcases hab with hab | ⟨rfl, rfl⟩
      · exact h.val a b hab z
      · exact absurd rfl e
theorem RM.congr {s : Sch} {D : DW} {S S' : Nat → Nat → Prop} (h : RM s D S) (e : ∀ x y, S x y ↔ S' x y) : RM s D S' := by
  refine ⟨h.is, fun kl => (h.has kl).trans ?_, fun a b hab => h.wf a b ((e a b).2 hab), fun a b hab => h.val a b ((e a b).2 hab)⟩
  constructor
  · rintro ⟨a, b, hx, rfl⟩; exact ⟨a, b, (e a b).1 hx, rfl⟩
  · rintro ⟨a, b, hx, rfl⟩; exact ⟨a, b, (e a b).2 hx, rfl⟩
theorem ownsMap_size {P : Program} {k : TypeId} {R : Value → Option (DW × List MemPlace)} {w : World} {b n : Nat} {D : DW} (h : w.ownsMap P k R b n D) : Go.Maps.size D ≤ n := by
  obtain ⟨es, clock, _, _, hs, rfl⟩ := h
  rw [Go.Maps.size_eq, length_sorted, List.length_map]
  simpa using hs
theorem ownsMap_below {P : Program} {k : TypeId} {R : Value → Option (DW × List MemPlace)} {w w' : World} {b n B : Nat} {D : DW} (h : w.ownsMap P k R b n D) (hb : Below B w w') (hB : b < B) : w'.ownsMap P k R b n D := by
  obtain ⟨es, clock, h1, h2⟩ := h
  exact ⟨es, clock, (hb.block b hB).trans h1, h2⟩
theorem Stab.ownsMap {B b n : Nat} {P : Program} {k : TypeId} {R : Value → Option (DW × List MemPlace)} {D : DW} (hb : b < B) : Stab B (fun W => W.ownsMap P k R b n D) := fun W W' row hs hg hr =>
  hs.kept hg fun e => by have := (hr b e.symm).1; omega
/-- a pruner in memory -/
abbrev PrAt (W : World) (p : Nat) (s : Sch) (O hm rm : Nat) : Prop := Blk W p #[.int .i64 s.places, .int .i64 s.signs, .int .i64 s.kinds, .int .i64 s.answers, s.rv, .int .u32 (O : Int), .map (some hm), .map (some rm)] 135
end Go.Proofs.Ytidlmbajpbbilaa
namespace Go.Proofs.Ytidlmbajpbbilaa
open Go.RowKit
attribute [local go_sem] Oper.semAt_some

theorem grown_of_below {W W' : World} (hb : Below W.heap.size W W') : W.grownBy W' none := ⟨hb.os, hb.tape, hb.output, hb.size, fun k hk _ => hb.block k hk⟩
theorem or_pow_lt {O i : Nat} (hO : O < 4294967296) (hi : i < 32) : O ||| 2 ^ i < 4294967296 := Nat.or_lt_two_pow (n := 32) hO (Nat.pow_lt_pow_right (by omega) hi)
def SameR (s : Sch) (O' : Nat) (S : Nat → Nat → Prop) (w : World) (e : Ending) (w' : World) : Prop :=
  (∃ b : Bool, e = .returned (.bool b) ∧ (b = true ↔ ∀ h k, S h k → ansH s O' h (k : Int) = ansH s 0 h (k : Int))) ∧ Below w.heap.size w w'
set_option maxRecDepth 100000 in
set_option maxHeartbeats 4000000 in
theorem same_any (s : Sch) (V : Valid s) (p O hm rm n : Nat) (D : DW) (S : Nat → Nat → Prop) (i : Nat) (w : World) (hP : PrAt w p s O hm rm) (hR : w.ownsMap Try.prog 149 (plainElem Try.prog 112) rm n D) (hM : RM s D S)
    (hS : ∀ h k, S h k → (k : Int) < s.kinds) (hr : s.reads w w.heap.size) (hO : O < 4294967296) (hi : i < 32) :
    Calls Try.prog 79 #[.pointer (some ⟨p, 0, none⟩), .int .i64 (i : Int)] w (SameR s (O ||| 2 ^ i) S w) := by
  have hsh := pow_mod32 i (by omega)
  have hpi : (2 : Nat) ^ i ≤ 2147483648 := pow_le_bset (by omega)
  have hor : bits BinOp.or IntKind.u32 (O : Int) ((2 : Int) ^ i) = ((O ||| 2 ^ i : Nat) : Int) := by have := u32or O (2 ^ i) hO (by omega); simpa using this
  have hlt := or_pow_lt hO hi
  obtain ⟨O', hO'⟩ : ∃ x, x = O ||| 2 ^ i := ⟨_, rfl⟩
  rw [← hO'] at hor hlt ⊢
  clear hO'
  have hpl := hP.lt
  have pc := hP.cell
  have p0 := pc 0; have p1 := pc 1; have p2 := pc 2; have p3 := pc 3; have p4 := pc 4; have p5 := pc 5; have p6 := pc 6; have p7 := pc 7
  simp at p0 p1 p2 p3 p4 p5 p6 p7
  have HR0 := Lib.hid hR
  clear pc hR hP
  have hi0 : (0 : Int) ≤ (i : Int) := by omega
  go_enter Try.func79, Try.ntmps79
  go_wp2
  go_region
  go_wp2_with (first | (at_range; refine wpList_range_own _ rfl _ 133 rfl 149 112 keyPoint Try.underlying133 (plainElem Try.prog 112) rm n D rfl ((HR0.out.alloc _).drew) ?_; intro w0 hrg0 hg0 hs0))
  go_frame
  simp only [World.size_drew, World.size_alloc] at hrg0 hs0 ⊢
  have hb0 : Below w.heap.size w w0 := ((Below.refl _ w).alloc (Nat.le_refl _) _).drew.grown hg0 (by simp) (fun k e => by cases e)
  have hf0 : Blk w0 w.heap.size #[.int .i64 s.places, .int .i64 s.signs, .int .i64 s.kinds, .int .i64 s.answers, s.rv, .int .u32 (O' : Int)] 108 := (hg0.block _ (by simp) (by simp)).trans (Blk.new w _ _)
  have HRR := Lib.hid hr
  have HRG := Lib.hid hrg0
  have HF0 := Lib.hid hf0
  obtain ⟨rr, hrr⟩ : ∃ r, r = w.heap.size + 1 := ⟨_, rfl⟩
  rw [← hrr] at HRG ⊢
  have hrl : w.heap.size < rr := by omega
  clear hg0 hrg0 hf0 hr hrr p0 p1 p2 p3 p4 p5 p6 p7 hor hsh hpi
  go_loopw [4] (fun v wr => v = .bool false ∧ ∃ left cnt, Hid (wr.ranges Try.prog 149 (plainElem Try.prog 112) rm rr n D left cnt) ∧ Below w.heap.size w wr ∧ w.heap.size < wr.heap.size ∧ Hid (Blk wr w.heap.size #[.int .i64 s.places, .int .i64 s.signs, .int .i64 s.kinds, .int .i64 s.answers, s.rv, .int .u32 (O' : Int)] 108) ∧
    Hid (∀ kl, left kl = true → Go.Maps.has D kl = true) ∧ Hid (∀ h k : Nat, S h k → left (pkey h k) = false → ansH s O' h (k : Int) = ansH s 0 h (k : Int))) (fun _ wr => wr.rangeLeft rm rr)
  case atStart => exact ⟨rfl, _, _, HRG, hb0, by omega, HF0, fun kl h => h, fun h k hs he => by have := (hM.has (pkey h k)).2 ⟨h, k, hs, rfl⟩; rw [this] at he; cases he⟩
  case round =>
    obtain ⟨rfl, left, cnt, hrg, hb, hlt2, hf, hlh, hok⟩ := hrel
    go_wp2_with (first | (at_next; refine wpList_next_ranges _ rfl _ rfl 149 keyPoint (plainElem Try.prog 112) (fun x : Int × Int => ptv x.1 x.2) (Value.int .u32) (fun key kl hkey => by obtain ⟨a, k, h1, _⟩ := pkey_inv hkey; exact ⟨(a, k), h1⟩) (fun v y hv => by obtain ⟨c, h1, _⟩ := plainElem_int_inv Try.underlying112 hv; exact ⟨c, h1⟩) rm rr n D left cnt rfl hrg.out ?_ ?_))
    · intro hc0 hl0
      have hall : ∀ h k : Nat, S h k → ansH s O' h (k : Int) = ansH s 0 h (k : Int) := fun h k hs => hok.out h k hs (hl0 _)
      have HALL := Lib.hid hall
      clear hall hl0 hc0
      go_wp2
      go_ret
      exact ⟨⟨true, rfl, fun _ => HALL.out, fun _ => rfl⟩, hb⟩
    · intro x1 x2 c kl yd yp w1 cnt1 hkey hlk hv hat hrg1 hcl hg1 hs1 hen
      obtain ⟨h, k, hs, rfl⟩ := (hM.has kl).1 (hlh.out kl hlk)
      have hwf := hM.wf h k hs
      have hx := keyPoint.inj hkey (pkey_of (wfu hwf.1) (wfi hwf.2))
      simp only [Value.agg.injEq, Array.mk.injEq, List.cons.injEq, Value.int.injEq, true_and, and_true] at hx
      obtain ⟨rfl, rfl⟩ := hx
      obtain ⟨c', hc', hy', _⟩ := plainElem_int_inv Try.underlying112 hv
      cases hc'; cases hy'
      have hcv := (hat .nil).symm.trans (hM.val h k hs .nil)
      simp only [DataW.lit.injEq, Lit.int.injEq, true_and] at hcv
      subst hcv
      have hkk : (k : Int) < s.kinds := hS h k hs
      have hbw1 : Below w.heap.size w w1 := hb.grown hg1 (by omega) (fun j e => by cases e; omega)
      have hf1 : Blk w1 w.heap.size #[.int .i64 s.places, .int .i64 s.signs, .int .i64 s.kinds, .int .i64 s.answers, s.rv, .int .u32 (O' : Int)] 108 := (hg1.block _ hlt2 (by intro e; cases e; omega)).trans hf.out
      have fc := hf1.cell
      have f0 := fc 0; have f1 := fc 1; have f2 := fc 2; have f3 := fc 3; have f4 := fc 4; have f5 := fc 5
      simp at f0 f1 f2 f3 f4 f5
      have hw1 : w.heap.size < w1.heap.size := by omega
      obtain ⟨L, hL⟩ : ∃ L, L = bset (mainS s (sp s (fun i => h.testBit i && !O'.testBit i) (k : Int)) s.rules.length) s.rules.length := ⟨_, rfl⟩
      have hLl : L < 4294967296 := hL ▸ bset_lt32 _ V.len
      have HSP := fun W (hW : Below w.heap.size w W) => Lib.hid (hL ▸ speak_any s s.rv rfl h O' hwf.1 hlt (k : Int) (by omega) hkk W V ((HRR.out.below hW).more hW.size))
      have HSY := fun W (hW : Below w.heap.size w W) => Lib.hid (say_any s s.rv rfl (O' : Int) L hLl W ((HRR.out.below hW).more hW.size) V)
      obtain ⟨X, hX⟩ : ∃ X, X = bset (saidTo s L s.rules.length) 20 := ⟨_, rfl⟩
      have HX : Hid (ansH s O' h (k : Int) = X) := by show _ = _; rw [hX, hL]; rfl
      rw [← hX] at HSY
      obtain ⟨Y, hY⟩ : ∃ Y, Y = ansH s 0 h (k : Int) := ⟨_, rfl⟩
      have HY := Lib.hid hY
      rw [← hY] at hen ⊢
      have HRG1 := Lib.hid hrg1; have HRGo := Lib.hid hrg
      have HBW1 := Lib.hid hbw1
      have HHS := Lib.hid hs
      have hsz1 : wr.heap.size ≤ w1.heap.size := by omega
      have HF1 := Lib.hid hf1
      clear hX hL hY hs1 hf1 fc hkey hv hat hrg1 hrg hf hb hbw1 hg1 hs
      by_cases hxy : X = Y
      · have hq : ((X : Int) != (Y : Int)) = false := by simp [hxy]
        have HXY := Lib.hid hxy
        clear hxy
        go_wp2
        (refine wp_region_ext (by kernel_rfl) (by kernel_rfl) ?_; (repeat (go_big_quiet_step((first | (go_at_call 56; with_reducible exact Calls.ext_of (HSP _ (((HBW1.out.alloc (by omega) _).trans ((Grow.h _).mono (by simp; omega))))).out) | (go_at_call 55; with_reducible exact Calls.ext_of (HSY _ (((HBW1.out.alloc (by omega) _).trans ((Grow.h _).mono (by simp; omega))))).out))))); with_reducible refine wpQuiet_nil ?_; intro w2 hw2; have hb1 := ext_below hw2; clear hw2)
        have HB2 := Lib.hid ((HBW1.out.alloc (by omega) _).trans (hb1.mono (by simp; omega)))
        have HF2 := Lib.hid ((HF1.out.alloc (.cells #[.int .u32 (h : Int), .int .i64 (k : Int)] 149)).below hb1 (by simp; omega))
        go_wp2
        go_roundw
        case rel =>
          refine ⟨rfl, _, _, ((HRG1.out.alloc _).kept (grown_of_below hb1) (by simp) (by simp)), HB2.out, by have := hb1.size; simp at this; omega, ?_, ?_, ?_⟩
          · exact HF2.out
          · intro kl hkl
            simp only [Bool.and_eq_true] at hkl
            exact hlh.out kl hkl.1
          · intro h' k' hs' hle
            simp only [Bool.and_eq_false_iff, Bool.not_eq_false'] at hle
            rcases hle with hle | hle
            · exact hok.out h' k' hs' hle
            · obtain ⟨rfl, rfl⟩ := pkey_nat (hM.wf h' k' hs') hwf (WideAt.sameKey_eq hle)
              rw [HX.out, HXY.out, HY.out]
        case measure =>
          rw [((HRG1.out.alloc _).kept (grown_of_below hb1) (by simp) (by simp)).left_eq, HRGo.out.out.left_eq]
          exact hcl
      · have hq : ((X : Int) != (Y : Int)) = true := by simp only [bne_iff_ne, ne_eq]; omega
        have HXY := Lib.hid hxy
        clear hxy
        go_wp2
        (refine wp_region_ext (by kernel_rfl) (by kernel_rfl) ?_; (repeat (go_big_quiet_step((first | (go_at_call 56; with_reducible exact Calls.ext_of (HSP _ (((HBW1.out.alloc (by omega) _).trans ((Grow.h _).mono (by simp; omega))))).out) | (go_at_call 55; with_reducible exact Calls.ext_of (HSY _ (((HBW1.out.alloc (by omega) _).trans ((Grow.h _).mono (by simp; omega))))).out))))); with_reducible refine wpQuiet_nil ?_; intro w2 hw2; have hb1 := ext_below hw2; clear hw2)
        have HB2 := Lib.hid ((HBW1.out.alloc (by omega) _).trans (hb1.mono (by simp; omega)))
        have HF2 := Lib.hid ((HF1.out.alloc (.cells #[.int .u32 (h : Int), .int .i64 (k : Int)] 149)).below hb1 (by simp; omega))
        go_wp2
        go_ret
        refine ⟨⟨false, rfl, fun e => (by cases e), fun e => ?_⟩, HB2.out⟩
        have := e h k HHS.out
        rw [HX.out, ← HY.out] at this
        exact absurd this HXY.out
end Go.Proofs.Ytidlmbajpbbilaa

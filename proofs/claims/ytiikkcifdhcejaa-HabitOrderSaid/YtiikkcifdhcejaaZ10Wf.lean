/- habit: numbers of many words: compare. -/
import Derived.Test.YtiikkcifdhcejaaZ09Gv
import Derived.Test.YtiikkcifdhcejaaZ00Mem
import Derived.StillTail
namespace Go.Proofs.Ytiikkcifdhcejaa
open Go.RowKit

set_option maxRecDepth 100000 in
set_option maxHeartbeats 1000000 in
theorem cmp63_any (a b : Int) (w : World) : Calls Try.prog 98 #[.int .i64 a, .int .i64 b] w fun e w' => e = .returned (.int .i64 (cmpI a b)) ∧ w = w' := by
  go_enter Try.func98, Try.ntmps98
  go_wp2
  all_goals (go_ret; refine ⟨?_, rfl⟩; unfold cmpI; (repeat' split) <;> first | rfl | (exfalso; omega) | skip)
set_option maxRecDepth 100000 in
set_option maxHeartbeats 4000000 in
theorem longCmp_any (A : Option Addr) (c : Nat) (l : List Nat) (A2 : Option Addr) (c2 : Nat) (m : List Nat) (x y : Nat) (w : World) (hl : l.length ≤ 4000000) (hm : m.length ≤ 4000000) (hx : Rep 18446744073709551616 l x) (hy : Rep 18446744073709551616 m y) (hr : Sl wordC 1 w w.heap.size A l) (hr2 : Sl wordC 1 w w.heap.size A2 m) :
    Calls Try.prog 75 #[.slice A l.length c, .slice A2 m.length c2] w fun e w' => e = .returned (.int .i64 (cmpN x y)) ∧ Below w.heap.size w w' := by
  have HR := Lib.hid hr; have HR2 := Lib.hid hr2
  by_cases hne : l.length = m.length
  · have HC := Lib.hid (hx.cmp_eq hy hne)
    have hci : cmpI (l.length : Int) (m.length : Int) = 0 := by unfold cmpI; rw [if_neg (by omega), if_neg (by omega)]
    have HI := Lib.hid (fun w => hci ▸ cmp63_any (l.length : Int) (m.length : Int) w)
    have HNE := Lib.hid hne
    clear hr hr2 hx hy hne hci
    go_enter Try.func75, Try.ntmps75
    go_wp2_with (first | (go_at_call 98; refine (HI.out _).mono ?_; rintro _ _ ⟨rfl, rfl⟩) | fail)
    go_loopw [6] (fun iv wr => ∃ k : Nat, k ≤ l.length ∧ iv = .int .i64 ((k : Int) - 1) ∧ Hid (cmpN x y = cmpD l m k) ∧ Below w.heap.size w wr) (fun iv _ => (intOf iv + 1).toNat)
    case atStart => exact ⟨l.length, Nat.le_refl _, rfl, HC.out, by (repeat (first | exact Below.refl _ _ | assumption | (refine Below.alloc ?_ (by first | omega | (simp; omega) | (simp; done)) _) | (refine Below.setCell ?_ (by first | omega | (simp; omega) | (simp; done)) _) | (refine Below.drew ?_) | (refine belowN ?_ _) | (refine Below.trans ?_ (Below.mono ‹Below _ _ _› (by first | omega | (simp; omega) | (simp; done))))))⟩
    case round =>
      obtain ⟨k, hk, rfl, HK, hb⟩ := hrel
      cases k with
      | zero =>
        have HZ : Hid (cmpN x y = 0) := (HK.out : _)
        go_wp2
        go_ret
        exact ⟨ret_int HZ.out.symm, hb⟩
      | succ k =>
        have hkl : k < l.length := by omega
        have hkm : k < m.length := by have := HNE.out; omega
        obtain ⟨b, o, rfl, hbb, hc⟩ := (HR.out.below hb).word_at hkl
        obtain ⟨b2, o2, rfl, hbb2, hc2⟩ := (HR2.out.below hb).word_at hkm
        have e1 : l.getD k 0 = l[k] := by simp [hkl]
        have e2 : m.getD k 0 = m[k] := by simp [hkm]
        have hK2 : cmpN x y = if l[k] < m[k] then -1 else if m[k] < l[k] then 1 else cmpD l m k := by
          rw [HK.out]; show (if l.getD k 0 < m.getD k 0 then -1 else if m.getD k 0 < l.getD k 0 then 1 else cmpD l m k) = _
          rw [e1, e2]
        obtain ⟨u, hu⟩ : ∃ u, u = l[k] := ⟨_, rfl⟩
        obtain ⟨v, hv⟩ : ∃ v, v = m[k] := ⟨_, rfl⟩
        rw [← hu, ← hv] at hK2
        rw [← hu] at hc
        rw [← hv] at hc2
        have HI2 := Lib.hid (fun w => cmp64_any (u : Int) (v : Int) w)
        have HLM := Lib.hid HNE.out
        have k0 : (0 : Int) ≤ (k : Int) := by omega
        have k1 : (k : Int) < (l.length : Int) := by omega
        have k2 : (k : Int) < (m.length : Int) := by omega
        have k3 : decide ((0 : Int) ≤ (k : Int)) = true := decide_eq_true k0
        have ke : ((k + 1 : Nat) : Int) - 1 = (k : Int) := by omega
        rw [ke]
        obtain ⟨d, hd⟩ : ∃ d, d = cmpI (u : Int) (v : Int) := ⟨_, rfl⟩
        rw [← hd] at HI2
        have hcase : (d ≠ 0 ∧ cmpN x y = d) ∨ (d = 0 ∧ cmpN x y = cmpD l m k) := by
          rw [hd, hK2]; unfold cmpI
          by_cases h1 : u < v
          · left; rw [if_pos h1, if_pos (by omega)]; simp
          · by_cases h2 : v < u
            · left; rw [if_neg h1, if_pos h2, if_neg (by omega), if_pos (by omega)]; simp
            · right; rw [if_neg h1, if_neg h2, if_neg (by omega), if_neg (by omega)]; simp
        have HCA := Lib.hid hcase
        clear hu hv e1 e2 hK2 HK ke hd hcase
        by_cases h0 : d = 0
        · have HV : Hid (cmpN x y = cmpD l m k) := HCA.out.elim (fun h => absurd h0 h.1) (fun h => h.2)
          subst h0
          clear HCA
          go_wp2
          (refine wp_region_ext (by kernel_rfl) (by kernel_rfl) ?_; (repeat (go_big_quiet_step((go_at_call 92; exact Calls.ext_same (HI2.out _))))); with_reducible refine wpQuiet_nil ?_; intro w1 hw1; have hb1 := ext_below hw1; clear hw1)
          have hw1 := bl2 hb hb1
          go_wp2
          refine ⟨⟨k, by omega, by go_num, HV.out, hw1⟩, ?_⟩
          simp [intOf]
        · have HV : Hid (cmpN x y = d) := HCA.out.elim (fun h => h.2) (fun h => absurd h.1 h0)
          have b0 : (d != 0) = true := by simpa using h0
          have b1 : (d == 0) = false := by simpa using h0
          clear HCA h0
          go_wp2
          (refine wp_region_ext (by kernel_rfl) (by kernel_rfl) ?_; (repeat (go_big_quiet_step((go_at_call 92; exact Calls.ext_same (HI2.out _))))); with_reducible refine wpQuiet_nil ?_; intro w1 hw1; have hb1 := ext_below hw1; clear hw1)
          have hw1 := bl2 hb hb1
          go_wp2
          go_ret
          exact ⟨ret_int HV.out.symm, hw1⟩
  · have hci : cmpI (l.length : Int) (m.length : Int) ≠ 0 ∧ cmpN x y = cmpI (l.length : Int) (m.length : Int) := by
      unfold cmpI
      rcases Nat.lt_or_gt_of_ne hne with h | h
      · rw [if_pos (by omega), hx.cmp_lt hy h]; simp
      · rw [if_neg (by omega), if_pos (by omega), hx.cmp_gt hy h]; simp
    have HI := Lib.hid (fun w => cmp63_any (l.length : Int) (m.length : Int) w)
    obtain ⟨d, hd⟩ : ∃ d, d = cmpI (l.length : Int) (m.length : Int) := ⟨_, rfl⟩
    rw [← hd] at hci HI
    have HV := Lib.hid hci.2
    have b0 : (d != 0) = true := by simpa using hci.1
    have b1 : (d == 0) = false := by simpa using hci.1
    clear hr hr2 hx hy hne hci hd
    go_enter Try.func75, Try.ntmps75
    go_wp2_with (first | (go_at_call 98; refine (HI.out _).mono ?_; rintro _ _ ⟨rfl, rfl⟩) | fail)
    go_ret
    exact ⟨ret_int HV.out.symm, by (repeat (first | exact Below.refl _ _ | assumption | (refine Below.alloc ?_ (by first | omega | (simp; omega) | (simp; done)) _) | (refine Below.setCell ?_ (by first | omega | (simp; omega) | (simp; done)) _) | (refine Below.drew ?_) | (refine belowN ?_ _) | (refine Below.trans ?_ (Below.mono ‹Below _ _ _› (by first | omega | (simp; omega) | (simp; done))))))⟩
end Go.Proofs.Ytiikkcifdhcejaa
namespace Go.Proofs.Ytiikkcifdhcejaa
open Go.RowKit

section
variable {P : Program} {ops : Array Oper} {md : Region.Mode} {C : World → Prop}
def wpAnyQL (P : Program) (md : Region.Mode) (ops : Array Oper) (C : World → Prop) (n : Nat) (L : Array Bool → Act → Prop) : Nat → Array Bool → Act → Prop
  | 0, listed, a => L listed a
  | f + 1, listed, a =>
    Region.ready md ops listed ≠ [] ∧ ∀ i ∈ Region.ready md ops listed, i < n ∧ qOp P ops C i (wpAnyQL P md ops C n L f (listed.setIfInBounds i true)) a
theorem wpAny_of_headQ {n g : Nat} {L : Array Bool → Act → Prop} {Q' : Exit → Act → World → Prop} (hL : ∀ listed a w, C w → L listed a → wpAny P md ops Q' g listed a w) :
    ∀ (f : Nat) (listed : Array Bool) (a : Act) (w : World), C w → wpAnyQL P md ops C n L f listed a → wpAny P md ops Q' (f + g) listed a w
  | 0, listed, a, w, hC, h => by rw [Nat.zero_add]; exact hL _ _ _ hC h
  | f + 1, listed, a, w, hC, h => by
    rw [show f + 1 + g = (f + g) + 1 by omega]
    exact ⟨fun h0 => absurd h0 h.1, fun i hi => wpOp_of_qOp hC (fun a' w' hw' h' => wpAny_of_headQ hL f _ a' w' hw' h') (h.2 i hi).2⟩
theorem wpAnyQL_first {n i : Nat} {oi : Oper} {v : Value} {L : Array Bool → Act → Prop} (hi : ops[i]? = some oi) (hsel : ∀ (j : Nat) (o : Oper) cs b, ops[j]? = some o → o.op ≠ .select cs b)
    (hs : Region.sinkB md ops n = true) (hc : Region.chainB md ops n = true) (hn : n < ops.size) (hin : i < n)
    (hdone : ∀ listed a, L listed a → ∀ j ∈ Region.ready md ops listed, n ≤ j) :
    ∀ (f : Nat) (listed : Array Bool) (a : Act), HeadInv md ops n listed →
      (∀ j oj, ops[j]? = some oj → j ≠ i → listed.getD j true = false → (∀ e ∈ oj.after, Region.binds md e = true → e.on ≠ i) → oi.apart ops oj = true) →
      i ∈ Region.ready md ops listed → YieldsIn P ops C oi v a →
      wpAnyQL P md ops C n L f (listed.setIfInBounds i true) (a.put oi.dst v) → wpAnyQL P md ops C n L (f + 1) listed a := by
  intro f
  induction f with
  | zero =>
    intro listed a inv _ hr hy H
    have hun := (mem_ready.1 hr).1
    refine ⟨fun h => (by rw [h] at hr; cases hr), fun j hj => ?_⟩
    have hjn : j < n := by
      rcases Nat.lt_or_ge j n with h | h
      · exact h
      · exact absurd hj (tail_waits hs hc hn inv _ i rfl hin hun j h)
    refine ⟨hjn, ?_⟩
    by_cases hji : j = i
    · subst hji; exact hy.qOp hi H
    · have := hdone _ _ H j (ready_mono hj hji)
      omega
  | succ f ih =>
    intro listed a inv hfree hr hy H
    have hun := (mem_ready.1 hr).1
    refine ⟨fun h => (by rw [h] at hr; cases hr), fun j hj => ?_⟩
    have hjn : j < n := by
      rcases Nat.lt_or_ge j n with h | h
      · exact h
      · exact absurd hj (tail_waits hs hc hn inv _ i rfl hin hun j h)
    refine ⟨hjn, ?_⟩
    by_cases hji : j = i
    · subst hji; exact hy.qOp hi H
    · have h1 := (H.2 j (ready_mono hj hji)).2
      obtain ⟨hjun, oj, hoj, hall⟩ := mem_ready.1 hj
      have hnot : ∀ e ∈ oj.after, Region.binds md e = true → e.on ≠ i := fun e he hb heq => by
        have h1 := hall e he hb
        rw [heq, getD_both hun] at h1
        cases h1
      have h2 := qOp_put hoj (hfree j oj hoj hji hjun hnot) (fun cs b => hsel i oi cs b hi) (fun cs b => hsel j oj cs b hoj) hy h1
      have hfree' : ∀ k ok, ops[k]? = some ok → k ≠ i → (listed.setIfInBounds j true).getD k true = false →
          (∀ e ∈ ok.after, Region.binds md e = true → e.on ≠ i) → oi.apart ops ok = true := fun k ok hk hki hun hno => by
        refine hfree k ok hk hki ?_ hno
        by_cases hjk : j = k
        · subst hjk; exact hjun
        · rw [getD_set_ne true hjk] at hun; exact hun
      refine qOp_mono (fun a' h3 => ih (listed.setIfInBounds j true) a' (inv.set hj hjn) hfree' (ready_mono hr (Ne.symm hji)) h3.1 ?_) h2
      rw [Array.setIfInBounds_comm _ _ hji]
      exact h3.2
theorem wpAnyQL_lex {n g : Nat} {Lq : Act → Prop} (hsel : Region.noSelect ops = true) (hs : Region.sinkB md ops n = true) (hc : Region.chainB md ops n = true) (hn : n < ops.size) :
    ∀ (l : List Oper) (k : Nat) (listed : Array Bool) (a : Act), (∀ j, j < l.length → l[j]? = ops[k + j]?) → k + l.length = n → HeadInv md ops n listed →
    Region.lexHead md ops g l.length k listed = true → wpQuiet P ops C Lq l a →
    wpAnyQL P md ops C n (fun listed' a' => Region.seqB md ops g n listed' = true ∧ Lq a') l.length listed a
  | [], k, listed, a, _, hk, _, hB, h => by
    have : k = n := by simpa using hk
    subst this
    exact ⟨by simpa [Region.lexHead] using hB, h⟩
  | o :: l, k, listed, a, hl, hk, inv, hB, h => by
    have h0 : ops[k]? = some o := by simpa using (hl 0 (by simp)).symm
    simp only [List.length_cons, Region.lexHead, Bool.and_eq_true] at hB
    obtain ⟨⟨hr, hf⟩, hB'⟩ := hB
    have hkn : k < n := by simp only [List.length_cons] at hk; omega
    have hr' : k ∈ Region.ready md ops listed := by simpa using hr
    have hst : qOp P ops C k (wpQuiet P ops C Lq l) a := by unfold qOp; simp only [h0]; exact h
    obtain ⟨v, hy, hK⟩ := yieldsIn_of_qOp h0 hst
    exact wpAnyQL_first h0 (Region.noSelect_spec hsel) hs hc hn hkn (fun listed' a' hL => seqB_ready hL.1) l.length listed a inv (Region.free_spec h0 hf) hr' hy
      (wpAnyQL_lex hsel hs hc hn l (k + 1) _ _ (fun j hj => by have := hl (j + 1) (by simp; omega); simpa [Nat.add_assoc, Nat.add_comm 1 j] using this) (by simp only [List.length_cons] at hk; omega) (inv.set hr' hkn) hB' hK)
theorem tail_head {l : List Oper} {a : Act} {Lq : Act → Prop} (n : Nat) (hB : Region.lexTailB .any l.toArray n = true) (h : wpQuiet P l.toArray C Lq (l.take n) a) :
    n + (l.toArray.size - n) = l.toArray.size ∧ (l.drop n).length = l.toArray.size - n ∧
    wpAnyQL P .any l.toArray C n (fun listed' a' => Region.seqB .any l.toArray (l.toArray.size - n) n listed' = true ∧ Lq a') n (Array.replicate l.toArray.size false) a := by
  simp only [Region.lexTailB, Bool.and_eq_true, decide_eq_true_eq] at hB
  obtain ⟨⟨⟨⟨hsel, hn⟩, hs⟩, hc⟩, hlex⟩ := hB
  have hn' : n < l.length := by simpa using hn
  have htl : (l.take n).length = n := by simp; omega
  have hdl : (l.drop n).length = l.toArray.size - n := by simp
  have inv0 : HeadInv .any l.toArray n (Array.replicate l.toArray.size false) :=
    ⟨by simp, fun j oj _ hl => (by rw [getD_replicate_false] at hl; cases hl), fun t _ ht => getD_in (by simpa using ht) (getD_replicate_false _ _)⟩
  have H := wpAnyQL_lex (md := .any) (g := l.toArray.size - n) hsel hs hc hn (l.take n) 0 _ a (fun j hj => by
    have hj' : j < n := by rw [htl] at hj; exact hj
    simp [hj']) (by simpa using htl) inv0 (by rw [htl]; exact hlex) h
  rw [htl] at H
  exact ⟨by omega, hdl, H⟩
end
theorem wp_region_tail {P : Program} {id : Nat} {Q : Exit → Act → World → Prop} {a : Act} {w : World} {l : List Oper} (n : Nat) (hm : P.follows .mixedOrders = true) (hB : Region.lexTailB .any l.toArray n = true)
    (h : wpQuiet P l.toArray (fun w' => ∃ E, w' = World.ext w E) (fun a' => ∀ w', (∃ E, w' = World.ext w E) → wpList P l.toArray Q (l.drop n) a' w') (l.take n) a) : (Code.region id l.toArray true).wp P Q a w := by
  obtain ⟨hsz, hdl, H⟩ := tail_head n hB h
  refine wp_region_any hm ?_
  have := wpAny_of_headQ (Q' := Q) (g := l.toArray.size - n) (fun listed a' w' hw' hL => by
    have := wpAny_of_seq (md := .any) (Q' := Q) (l.drop n) n listed a' w' (fun j => by simp [List.getElem?_drop]) (by rw [hdl]; exact hL.1) (hL.2 w' hw')
    rwa [hdl] at this) _ _ _ _ (ext_of ((Below.refl _ w).drew)) H
  rw [hsz] at this
  exact this
/-! within a round -/
theorem wpAnyIn_of_headQ {P : Program} {lp m : Nat} {md : Region.Mode} {ops : Array Oper} {C : World → Prop} (hnd : noDefer ops = true) {n g : Nat} {L : Array Bool → Act → Prop} {Q' : Exit → Act → World → Prop}
    (hL : ∀ listed a w, C w → L listed a → wpAnyIn (Fence.wide.inRound lp) m P md ops Q' g listed a w) :
    ∀ (f : Nat) (listed : Array Bool) (a : Act) (w : World), C w → wpAnyQL P md ops C n L f listed a → wpAnyIn (Fence.wide.inRound lp) m P md ops Q' (f + g) listed a w
  | 0, listed, a, w, hC, h => by rw [Nat.zero_add]; exact hL _ _ _ hC h
  | f + 1, listed, a, w, hC, h => by
    rw [show f + 1 + g = (f + g) + 1 by omega]
    refine ⟨fun h0 => absurd h0 h.1, fun i hi => ?_⟩
    have hq := (h.2 i hi).2
    have ih := wpAnyIn_of_headQ (P := P) (lp := lp) (m := m) (md := md) (n := n) hnd hL f (listed.setIfInBounds i true)
    unfold qOp at hq
    unfold wpOpIn
    cases ho : ops[i]? with
    | none => simp only [ho] at hq ⊢; exact ih a w hC hq
    | some o =>
      simp only [ho] at hq ⊢
      split
      · rename_i hw; simp only [hw, if_true] at hq
        exact Oper.wpIn_of_quietR (noDefer_spec hnd ho) hC (fun a' w' hC' hk => ih a' w' hC' hk) hq
      · rename_i hw; simp only [hw] at hq
        exact ⟨fun _ _ => trivial, ih _ w hC hq⟩
theorem wpAnyIn_of_seq {F : Fence} {m : Nat} {P : Program} {md : Region.Mode} {ops : Array Oper} {Q' : Exit → Act → World → Prop} : ∀ (l : List Oper) (k : Nat) (listed : Array Bool) (a : Act) (w : World), (∀ j, l[j]? = ops[k + j]?) →
    Region.seqB md ops l.length k listed = true → wpListIn F m P ops Q' l a w → wpAnyIn F m P md ops Q' l.length listed a w
  | [], _, _, _, _, _, hB, h => ⟨by simpa [Region.seqB] using hB, h⟩
  | o :: l, k, listed, a, w, hl, hB, h => by
    have h0 : ops[k]? = some o := by simpa using (hl 0).symm
    simp only [List.length_cons, Region.seqB, Bool.and_eq_true, decide_eq_true_eq] at hB
    refine ⟨fun h1 => (by rw [hB.1] at h1; cases h1), fun i hi => ?_⟩
    rw [hB.1] at hi
    have hik : i = k := by simpa using hi
    subst hik
    have hw : wpOpIn F m P ops Q' i (wpListIn F m P ops Q' l) a w := by unfold wpOpIn; simp only [h0]; exact h
    exact wpOpIn_mono (fun a' w' h' => wpAnyIn_of_seq l (i + 1) _ a' w' (fun j => by have := hl (j + 1); simpa [Nat.add_assoc, Nat.add_comm 1 j] using this) hB.2 h') hw
theorem wpIn_region_tail {P : Program} {lp m : Nat} {id : Nat} {Q : Exit → Act → World → Prop} {a : Act} {w : World} {l : List Oper} (n : Nat) (hm : P.follows .mixedOrders = true) (hB : Region.lexTailB .any l.toArray n = true) (hnd : noDefer l.toArray = true)
    (h : wpQuiet P l.toArray (fun w' => ∃ E, w' = World.ext w E) (fun a' => ∀ w', (∃ E, w' = World.ext w E) → wpListIn (Fence.wide.inRound lp) m P l.toArray Q (l.drop n) a' w') (l.take n) a) : (Code.region id l.toArray true).wpIn (Fence.wide.inRound lp) m P Q a w := by
  obtain ⟨hsz, hdl, H⟩ := tail_head n hB h
  refine wpIn_region_any hm ?_
  have := wpAnyIn_of_headQ (Q' := Q) (g := l.toArray.size - n) hnd (fun listed a' w' hw' hL => by
    have := wpAnyIn_of_seq (md := .any) (Q' := Q) (l.drop n) n listed a' w' (fun j => by simp [List.getElem?_drop]) (by rw [hdl]; exact hL.1) (hL.2 w' hw')
    rwa [hdl] at this) _ _ _ _ (ext_of ((Below.refl _ w).drew)) H
  rw [hsz] at this
  exact this
end Go.Proofs.Ytiikkcifdhcejaa

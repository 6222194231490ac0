/- A drawn region by a plan: each operation is shown once, in any world that has grown from the start, by what the operations that it waits for have yielded; allocs and calls with results that are known by their properties alone may come in any order. -/
import Derived.Test.YtiikkcifdhcejaaZ10Wf
import Derived.OrdersHeld
import Derived.Deep.RegionHeld
import Derived.Deep.RegionHeld3
namespace Go.Proofs.Ytiikkcifdhcejaa
open Go.RowKit

section
variable {P : Program} {ops : Array Oper} {md : Region.Mode}
/-- values in the slots of the first n operations -/
def putsF (ops : Array Oper) (xs : Nat → Value) (a : Act) : Nat → Act
  | 0 => a
  | k + 1 => match ops[k]? with
    | some o => (putsF ops xs a k).put o.dst (xs k)
    | none => putsF ops xs a k
def looksB (ops : Array Oper) (o : Oper) (d : Option Tmp) : Bool := match d with
  | some t => (o.looksAt ops).contains t
  | none => false
/-- the same, in those slots alone that an operation looks at -/
def lookF (ops : Array Oper) (o : Oper) (xs : Nat → Value) (a : Act) : Nat → Act
  | 0 => a
  | k + 1 => match ops[k]? with
    | some p => if looksB ops o p.dst = true then (lookF ops o xs a k).put p.dst (xs k) else lookF ops o xs a k
    | none => lookF ops o xs a k
def restF (ops : Array Oper) (o : Oper) (xs : Nat → Value) (b : Act) : Nat → Act
  | 0 => b
  | k + 1 => match ops[k]? with
    | some p => if looksB ops o p.dst = true then restF ops o xs b k else (restF ops o xs b k).put p.dst (xs k)
    | none => restF ops o xs b k
def dstsB (ops : Array Oper) : Bool := (List.range ops.size).all fun j => (List.range j).all fun i =>
  match ops[i]?, ops[j]? with
  | some p, some q => (match p.dst with | some d => q.dst != some d | none => true)
  | _, _ => true
/-- no two operations write the same slot -/
def Dsts (ops : Array Oper) : Prop := ∀ (i j : Nat) (p q : Oper), ops[i]? = some p → ops[j]? = some q → i ≠ j → ∀ d, p.dst = some d → q.dst ≠ some d
theorem dsts_spec (h : dstsB ops = true) : Dsts ops := by
  have key : ∀ (i j : Nat) (p q : Oper), ops[i]? = some p → ops[j]? = some q → i < j → ∀ d, p.dst = some d → q.dst ≠ some d := fun i j p q hp hq hij d hd => by
    have hj : j < ops.size := (Array.getElem?_eq_some_iff.1 hq).1
    have h1 := List.all_eq_true.1 (List.all_eq_true.1 h j (List.mem_range.2 hj)) i (List.mem_range.2 hij)
    simp only [hp, hq, hd] at h1
    simpa using h1
  intro i j p q hp hq hij d hd
  rcases Nat.lt_or_gt_of_ne hij with h1 | h1
  · exact key i j p q hp hq h1 d hd
  · intro he
    exact key j i q p hq hp h1 d he hd
def upd (xs : Nat → Value) (j : Nat) (v : Value) : Nat → Value := fun k => if k = j then v else xs k
theorem putsF_congr {xs ys : Nat → Value} (a : Act) : ∀ n, (∀ k, k < n → xs k = ys k) → putsF ops xs a n = putsF ops ys a n
  | 0, _ => rfl
  | n + 1, h => by
    simp only [putsF, putsF_congr a n fun k hk => h k (by omega), h n (by omega)]
theorem put_put (a : Act) (d : Option Tmp) (x v : Value) : (a.put d x).put d v = a.put d v := by
  cases d <;> simp [Act.put]
theorem putsF_put (hd : Dsts ops) {xs : Nat → Value} {j : Nat} {o : Oper} {v : Value} (a : Act) (ho : ops[j]? = some o) : ∀ n, j < n → (putsF ops xs a n).put o.dst v = putsF ops (upd xs j v) a n
  | 0, h => by omega
  | n + 1, h => by
    by_cases hj : j = n
    · subst hj
      simp only [putsF, ho, put_put]
      rw [putsF_congr (ys := upd xs j v) a j fun k hk => by simp [upd, Nat.ne_of_lt hk]]
      simp [upd]
    · have ih := putsF_put hd (xs := xs) (v := v) a ho n (by omega)
      cases hp : ops[n]? with
      | none => simp only [putsF, hp]; exact ih
      | some p =>
        simp only [putsF, hp]
        rw [Act.put_comm _ _ _ (hd n j p o hp ho (Ne.symm hj)), ih]
        simp [upd, Ne.symm hj]
def slotOf (a : Act) (d : Option Tmp) : Value := match d with
  | some t => a.tmps.getD t undef
  | none => undef
theorem put_self (a : Act) (d : Option Tmp) : a.put d (slotOf a d) = a := by
  cases d with
  | none => rfl
  | some t =>
    simp only [Act.put, slotOf]
    congr 1
    by_cases h : t < a.tmps.size
    · apply Array.ext
      · simp
      · intro i h1 h2
        by_cases hi : t = i
        · subst hi; simp [h]
        · rw [Array.getElem_setIfInBounds_ne h2 hi]
    · simp [Array.setIfInBounds, h]
theorem putsF_self (a : Act) : ∀ n, putsF ops (fun k => slotOf a ((ops[k]?).bind (·.dst))) a n = a
  | 0 => rfl
  | n + 1 => by
    cases hp : ops[n]? with
    | none => simp only [putsF, hp]; exact putsF_self a n
    | some p => simp only [putsF, hp, putsF_self a n, Option.bind_some]; exact put_self a _
theorem restF_put (hd : Dsts ops) {o p : Oper} {xs : Nat → Value} {j : Nat} {v : Value} (b : Act) (hp : ops[j]? = some p) : ∀ n, n ≤ j → restF ops o xs (b.put p.dst v) n = (restF ops o xs b n).put p.dst v
  | 0, _ => rfl
  | n + 1, h => by
    have ih := restF_put hd (o := o) (xs := xs) (v := v) b hp n (by omega)
    cases hq : ops[n]? with
    | none => simp only [restF, hq]; exact ih
    | some q =>
      simp only [restF, hq]
      split
      · exact ih
      · rw [ih, Act.put_comm _ _ _ (hd j n p q hp hq (by omega))]
theorem putsF_split (hd : Dsts ops) {o : Oper} {xs : Nat → Value} (a : Act) : ∀ n, putsF ops xs a n = restF ops o xs (lookF ops o xs a n) n
  | 0 => rfl
  | n + 1 => by
    have ih := putsF_split hd (o := o) (xs := xs) a n
    cases hp : ops[n]? with
    | none => simp only [putsF, restF, lookF, hp]; exact ih
    | some p =>
      simp only [putsF, restF, lookF, hp]
      split
      · rw [restF_put hd _ hp n (Nat.le_refl _), ih]
      · rw [ih]
theorem looksB_not {o : Oper} {d : Option Tmp} (h : ¬ looksB ops o d = true) : ∀ t, d = some t → t ∉ o.looksAt ops := by
  rintro t rfl ht
  exact h (by simpa [looksB] using ht)
theorem exec_rest {o : Oper} (hs : ∀ cs b, o.op ≠ .select cs b) {xs : Nat → Value} (b : Act) : ∀ n, execOp (restF ops o xs b n).eval o = execOp b.eval o ∧ Region.wanted o (yielded ops (restF ops o xs b n).tmps) = Region.wanted o (yielded ops b.tmps)
  | 0 => ⟨rfl, rfl⟩
  | n + 1 => by
    obtain ⟨h1, h2⟩ := exec_rest hs (xs := xs) b n
    cases hp : ops[n]? with
    | none => simp only [restF, hp]; exact ⟨h1, h2⟩
    | some p =>
      simp only [restF, hp]
      split
      · exact ⟨h1, h2⟩
      · rename_i hl
        rw [execOp_put o hs _ _ _ (looksB_not hl), wanted_put o _ _ _ (looksB_not hl)]
        exact ⟨h1, h2⟩
/-- what an operation yields, and in which world -/
def uponV (P : Program) (K : Value → World → Prop) : Result Next → Prop
  | .ok (.value v) w' => K v w'
  | .ok .skip w' => K undef w'
  | .ok (.enter f args) w' => Calls P f args w' fun e w'' => ∃ v, e = .returned v ∧ K v w''
  | .ok (.row row args) w' => Rows P row args w' K
  | _ => False
theorem uponV_value {K : Value → World → Prop} (v : Value) (w : World) : uponV P K (.ok (.value v) w) = K v w := rfl
theorem uponV_skip {K : Value → World → Prop} (w : World) : uponV P K (.ok .skip w) = K undef w := rfl
theorem uponV_enter {K : Value → World → Prop} (f : FuncId) (args : Array Value) (w : World) : uponV P K (.ok (.enter f args) w) = Calls P f args w fun e w'' => ∃ v, e = .returned v ∧ K v w'' := rfl
theorem uponV_row {K : Value → World → Prop} (row : String) (args : Array Value) (w : World) : uponV P K (.ok (.row row args) w) = Rows P row args w K := rfl
attribute [go_sem] uponV_value uponV_skip uponV_enter uponV_row
def opV (P : Program) (ops : Array Oper) (o : Oper) (a : Act) (w : World) (K : Value → World → Prop) : Prop :=
  if Region.wanted o (yielded ops a.tmps) = true then uponV P K ((execOp a.eval o).run P w) else K undef w
theorem wpOp_of_V {Q : Exit → Act → World → Prop} {K : Value → World → Prop} {K' : Act → World → Prop} {j : Nat} {o : Oper} {a m : Act} {w : World} (ho : ops[j]? = some o)
    (he : execOp m.eval o = execOp a.eval o) (hw : Region.wanted o (yielded ops m.tmps) = Region.wanted o (yielded ops a.tmps)) (h : opV P ops o a w K) (hK : ∀ v w', K v w' → K' (m.put o.dst v) w') : wpOp P ops Q j K' m w := by
  unfold opV at h
  unfold wpOp
  simp only [ho]
  rw [← hw] at h
  split
  · rename_i h1
    simp only [h1, if_true] at h
    refine .inl ?_
    unfold Oper.wp
    rw [← he] at h
    generalize (execOp m.eval o).run P w = r at *
    cases r with
    | halt x w' => exact h.elim
    | ok x w' =>
      cases x <;> simp only [uponV, Oper.upon] at h ⊢
      case value u => exact hK _ _ h
      case skip => exact hK _ _ h
      case enter f args =>
        refine Calls.mono h ?_
        rintro e w'' ⟨v, rfl, hv⟩
        exact hK _ _ hv
      case row row args => exact Rows.mono h fun u w'' he => hK _ _ he
  · rename_i h1
    simp only [h1] at h
    exact hK _ _ h
/-- operations wait for earlier ones alone -/
def backB (ops : Array Oper) : Bool := (List.range ops.size).all fun j => match ops[j]? with
  | some o => o.after.all fun e => !Region.binds .any e || decide (e.on < j)
  | none => true
def openL (n : Nat) (listed : Array Bool) : List Nat := (List.range n).filter fun j => !listed.getD j true
theorem openL_set {n j : Nat} {listed : Array Bool} (hs : listed.size = n) (hj : listed.getD j true = false) : (openL n (listed.setIfInBounds j true)).length + 1 = (openL n listed).length := by
  have hjs : j < listed.size := by
    rcases Nat.lt_or_ge j listed.size with h | h
    · exact h
    · rw [Array.getD_eq_getD_getElem?, Array.getElem?_eq_none h] at hj; simp at hj
  have key : ∀ l : List Nat, l.Nodup → (l.filter fun i => !(listed.setIfInBounds j true).getD i true).length + (if j ∈ l then 1 else 0) = (l.filter fun i => !listed.getD i true).length := fun l => by
    induction l with
    | nil => intro _; simp
    | cons x l ih =>
      intro hn
      obtain ⟨hx, hn'⟩ := List.nodup_cons.1 hn
      have := ih hn'
      by_cases hxj : x = j
      · subst hxj
        have h1 : (listed.setIfInBounds x true).getD x true = true := by simp [hjs]
        simp only [List.filter_cons, h1, hj, Bool.not_true, Bool.not_false, if_true, List.mem_cons, true_or, List.length_cons] at this ⊢
        simp only [hx, if_false] at this
        simpa using this
      · have h1 : (listed.setIfInBounds j true).getD x true = listed.getD x true := getD_set_ne true (Ne.symm hxj)
        have h2 : (j ∈ x :: l) ↔ j ∈ l := by simp [Ne.symm hxj]
        simp only [List.filter_cons, h1, h2]
        split
        · simp only [List.length_cons]; omega
        · exact this
  have := key (List.range n) List.nodup_range
  rw [if_pos (List.mem_range.2 (hs ▸ hjs))] at this
  exact this

/-- the operations whose slots one looks at, with the slots -/
def lookIdx (ops : Array Oper) (o : Oper) : Nat → List (Nat × Tmp)
  | 0 => []
  | k + 1 => match ops[k]? with
    | some p => (match p.dst with
      | some d => if (o.looksAt ops).contains d = true then (k, d) :: lookIdx ops o k else lookIdx ops o k
      | none => lookIdx ops o k)
    | none => lookIdx ops o k
def waitsB (o : Oper) (j : Nat) : Bool := o.after.any fun e => e.on == j && Region.binds .any e
def lookB (ops : Array Oper) (o : Oper) (L : List (Nat × Tmp)) : Bool := (lookIdx ops o ops.size == L) && L.all fun p => waitsB o p.1
/-- values in slots, the last of the list first -/
def putL (xs : Nat → Value) (a : Act) : List (Nat × Tmp) → Act
  | [] => a
  | p :: l => (putL xs a l).put (some p.2) (xs p.1)
theorem lookF_putL {o : Oper} {xs : Nat → Value} {a : Act} : ∀ n, lookF ops o xs a n = putL xs a (lookIdx ops o n)
  | 0 => rfl
  | n + 1 => by
    have ih := lookF_putL (o := o) (xs := xs) (a := a) n
    cases hp : ops[n]? with
    | none => simp only [lookF, lookIdx, hp]; exact ih
    | some p =>
      cases hd : p.dst with
      | none =>
        simp only [lookF, lookIdx, hp, hd]
        rw [if_neg (show ¬ looksB ops o none = true by simp [looksB])]; exact ih
      | some d =>
        simp only [lookF, lookIdx, hp, hd]
        by_cases hc : (o.looksAt ops).contains d = true
        · rw [if_pos (show looksB ops o (some d) = true from hc), if_pos hc]; simp only [putL, ih]
        · rw [if_neg (show ¬ looksB ops o (some d) = true from hc), if_neg hc]; exact ih
def allIdx (ops : Array Oper) : Nat → List (Nat × Tmp)
  | 0 => []
  | k + 1 => match ops[k]? with
    | some p => (match p.dst with
      | some d => (k, d) :: allIdx ops k
      | none => allIdx ops k)
    | none => allIdx ops k
theorem putsF_putL {xs : Nat → Value} {a : Act} : ∀ n, putsF ops xs a n = putL xs a (allIdx ops n)
  | 0 => rfl
  | n + 1 => by
    have ih := putsF_putL (xs := xs) (a := a) n
    cases hp : ops[n]? with
    | none => simp only [putsF, allIdx, hp]; exact ih
    | some p =>
      simp only [putsF, allIdx, hp]
      cases hd : p.dst with
      | none => simp only [Act.put]; exact ih
      | some d => simp only [putL, ih]
abbrev Fact := Value → World → Prop
/-- a value that is known -/
def Det (e : Value) : Fact := fun v _ => v = e
theorem det_rfl {e : Value} {W : World} : Det e e W := rfl
def noF : Fact := fun _ _ => True
def pickF : List Fact → Nat → Fact
  | [], _ => noF
  | f :: _, 0 => f
  | _ :: l, n + 1 => pickF l n
def factsL (fs : List Fact) (xs : Nat → Value) (W : World) : List (Nat × Tmp) → Prop
  | [] => True
  | p :: l => pickF fs p.1 (xs p.1) W ∧ factsL fs xs W l
theorem facts_of {fs : List Fact} {xs : Nat → Value} {W : World} : ∀ (L : List (Nat × Tmp)), (∀ p ∈ L, pickF fs p.1 (xs p.1) W) → factsL fs xs W L
  | [], _ => trivial
  | e :: l, h => ⟨h e (by simp), facts_of l fun e' he => h e' (by simp [he])⟩
/-- all facts, from number k on -/
def factsA (xs : Nat → Value) (W : World) : Nat → List Fact → Prop
  | _, [] => True
  | k, f :: l => f (xs k) W ∧ factsA xs W (k + 1) l
theorem factsA_of {xs : Nat → Value} {W : World} : ∀ (l : List Fact) (k : Nat), (∀ j, pickF l j (xs (k + j)) W) → factsA xs W k l
  | [], _, _ => trivial
  | f :: l, k, h => ⟨h 0, factsA_of l (k + 1) fun j => by
      have := h (j + 1)
      rwa [show k + (j + 1) = k + 1 + j by omega] at this⟩
/-- stays true when a world grows -/
def Stays (f : Fact) : Prop := ∀ x W W', f x W → Below W.heap.size W W' → f x W'
theorem det_stays {e : Value} : Stays (Det e) := fun _ _ _ h _ => h
theorem noF_stays : Stays noF := fun _ _ _ h _ => h
def staysA : List Fact → Prop
  | [] => True
  | f :: l => Stays f ∧ staysA l
theorem stays_pick : ∀ (l : List Fact) (j : Nat), staysA l → Stays (pickF l j)
  | [], _, _ => noF_stays
  | _ :: _, 0, h => h.1
  | _ :: l, j + 1, h => stays_pick l j h.2
inductive PKind where
  | eff
  | pur
  | last
  | post
/-- an operation that may change the world -/
def planEff (P : Program) (ops : Array Oper) (fs : List Fact) (C : World → Prop) (a : Act) (o : Oper) (f : Fact) : Prop :=
  ∃ L, lookB ops o L = true ∧ ∀ xs W, C W → factsL fs xs W L → ∀ K : Value → World → Prop, Shut (∀ v W', Below W.heap.size W W' → f v W' → K v W') → opV P ops o (putL xs a L) W K
/-- one that yields a value in whatever world -/
def planPur (P : Program) (ops : Array Oper) (fs : List Fact) (C : World → Prop) (a : Act) (o : Oper) (f : Fact) : Prop :=
  ∃ L, lookB ops o L = true ∧ ∀ xs W, C W → factsL fs xs W L → ∃ e, f e W ∧ Yields P ops o e (putL xs a L)
theorem planPur.eff {fs : List Fact} {C : World → Prop} {a : Act} {o : Oper} {f : Fact} (h : planPur P ops fs C a o f) : planEff P ops fs C a o f := by
  obtain ⟨L, h1, h2⟩ := h
  refine ⟨L, h1, fun xs W hC hf K hK => ?_⟩
  obtain ⟨e, he, hy⟩ := h2 xs W hC hf
  unfold opV
  rcases hy with ⟨hw, hv⟩ | ⟨hw, rfl⟩
  · rw [if_pos hw, hv W]; exact hK.out _ _ (Below.refl _ _) he
  · rw [if_neg (by simp [hw])]; exact hK.out _ _ (Below.refl _ _) he
def planAll (P : Program) (ops : Array Oper) (fs : List Fact) (C : World → Prop) (a : Act) : List PKind → List Oper → List Fact → Prop
  | .eff :: ks, o :: l, f :: fr => planEff P ops fs C a o f ∧ planAll P ops fs C a ks l fr
  | .pur :: ks, o :: l, f :: fr => planPur P ops fs C a o f ∧ planAll P ops fs C a ks l fr
  | .post :: ks, o :: l, f :: fr => planPur P ops fs C a o f ∧ planAll P ops fs C a ks l fr
  | .last :: ks, _ :: l, _ :: fr => planAll P ops fs C a ks l fr
  | _, [], _ => True
  | _, _, _ => False
theorem planAll_at {fs : List Fact} {C : World → Prop} {a : Act} : ∀ (ks : List PKind) (l : List Oper) (fr : List Fact) (j : Nat) (o : Oper), planAll P ops fs C a ks l fr → l[j]? = some o →
    (ks[j]? = some .eff ∧ planEff P ops fs C a o (pickF fr j)) ∨ (ks[j]? = some .pur ∧ planPur P ops fs C a o (pickF fr j)) ∨ (ks[j]? = some .post ∧ planPur P ops fs C a o (pickF fr j)) ∨ ks[j]? = some .last
  | _, [], _, _, _, _, h => by simp at h
  | [], _ :: _, _, _, _, hp, _ => hp.elim
  | k :: _, _ :: _, [], _, _, hp, _ => by cases k <;> exact hp.elim
  | .eff :: ks, p :: l, f :: fr, 0, o, hp, h => by
    have e : p = o := by simpa using h
    subst e; exact .inl ⟨rfl, hp.1⟩
  | .pur :: ks, p :: l, f :: fr, 0, o, hp, h => by
    have e : p = o := by simpa using h
    subst e; exact .inr (.inl ⟨rfl, hp.1⟩)
  | .post :: ks, p :: l, f :: fr, 0, o, hp, h => by
    have e : p = o := by simpa using h
    subst e; exact .inr (.inr (.inl ⟨rfl, hp.1⟩))
  | .last :: ks, p :: l, f :: fr, 0, o, hp, h => .inr (.inr (.inr rfl))
  | .eff :: ks, p :: l, f :: fr, j + 1, o, hp, h => by simpa [pickF] using planAll_at ks l fr j o hp.2 (by simpa using h)
  | .pur :: ks, p :: l, f :: fr, j + 1, o, hp, h => by simpa [pickF] using planAll_at ks l fr j o hp.2 (by simpa using h)
  | .post :: ks, p :: l, f :: fr, j + 1, o, hp, h => by simpa [pickF] using planAll_at ks l fr j o hp.2 (by simpa using h)
  | .last :: ks, p :: l, f :: fr, j + 1, o, hp, h => by simpa [pickF] using planAll_at ks l fr j o hp (by simpa using h)
/-- each one is waited for by 's', or by one that is waited for -/
def pathB (ops : Array Oper) (seen : List Nat) : List Nat → Bool
  | [] => true
  | j :: l => (seen.any fun k => match ops[k]? with | some o => waitsB o j | none => false) && pathB ops (j :: seen) l
theorem waitsB_spec {o : Oper} {j : Nat} (h : waitsB o j = true) : ∃ e ∈ o.after, Region.binds .any e = true ∧ e.on = j := by
  unfold waitsB at h
  obtain ⟨i, hi, h2⟩ := Array.any_eq_true.1 h
  simp only [Bool.and_eq_true, beq_iff_eq] at h2
  exact ⟨_, Array.getElem_mem hi, h2.2, h2.1⟩
/-- what has come up was free to -/
def Closed (ops : Array Oper) (listed : Array Bool) : Prop := ∀ j o, ops[j]? = some o → listed.getD j false = true → ∀ e ∈ o.after, Region.binds .any e = true → listed.getD e.on false = true
theorem path_listed {listed : Array Bool} (hc : Closed ops listed) : ∀ (l seen : List Nat), pathB ops seen l = true → (∀ k ∈ seen, ∀ o, ops[k]? = some o → ∀ e ∈ o.after, Region.binds .any e = true → listed.getD e.on false = true) → ∀ j ∈ l, listed.getD j false = true
  | [], _, _, _, _, h => by cases h
  | i :: l, seen, hp, hs, j, hj => by
    simp only [pathB, Bool.and_eq_true] at hp
    obtain ⟨hp1, hp2⟩ := hp
    obtain ⟨k, hk, h2⟩ := List.any_eq_true.1 hp1
    have hi : listed.getD i false = true := by
      cases ho : ops[k]? with
      | none => rw [ho] at h2; cases h2
      | some o =>
        rw [ho] at h2
        obtain ⟨e, he, hb, rfl⟩ := waitsB_spec h2
        exact hs k hk o ho e he hb
    rcases List.mem_cons.1 hj with rfl | hj
    · exact hi
    · refine path_listed hc l (i :: seen) hp2 (fun k hk o ho => ?_) j hj
      rcases List.mem_cons.1 hk with rfl | hk
      · exact hc k o ho hi
      · exact hs k hk o ho
/-- a pure operation is apart from all that do not wait for it, and for which it does not wait -/
def apartB (ops : Array Oper) (i : Nat) (o : Oper) : Bool := (List.range ops.size).all fun k => k == i || (match ops[k]? with
  | some p => waitsB p i || waitsB o k || o.apart ops p
  | none => true)
def freeK (ks : List PKind) (j : Nat) : Bool := match ks[j]? with
  | some .eff => true
  | some .pur => true
  | _ => false
def kindsB (ops : Array Oper) (s : Nat) (L : List Nat) (ks : List PKind) : Bool := (List.range ops.size).all fun j => match ks[j]?, ops[j]? with
  | some .eff, some _ => L.contains j
  | some .pur, some o => apartB ops j o && !(j == s) && o.after.all fun e => !Region.binds .any e || freeK ks e.on
  | some .post, some o => apartB ops j o && !(j == s) && waitsB o s && (lookIdx ops o ops.size).all fun p => p.1 != s
  | some .last, some _ => j == s
  | _, _ => false
theorem apart_listed {listed : Array Bool} {i : Nat} {o : Oper} (h : apartB ops i o = true) (hr : ∀ e ∈ o.after, Region.binds .any e = true → listed.getD e.on false = true) :
    ∀ j oj, ops[j]? = some oj → j ≠ i → listed.getD j true = false → (∀ e ∈ oj.after, Region.binds .any e = true → e.on ≠ i) → o.apart ops oj = true := fun j oj hoj hji hun hno => by
  have h1 := List.all_eq_true.1 h j (List.mem_range.2 (Array.getElem?_eq_some_iff.1 hoj).1)
  simp only [hoj, Bool.or_eq_true, beq_iff_eq] at h1
  rcases h1 with h1 | (h1 | h1) | h1
  · exact absurd h1 hji
  · obtain ⟨e, he, hb, h3⟩ := waitsB_spec h1
    exact absurd h3 (hno e he hb)
  · obtain ⟨e, he, hb, h3⟩ := waitsB_spec h1
    have h4 := hr e he hb
    rw [h3] at h4
    rw [Array.getD_eq_getD_getElem?] at hun h4
    cases h5 : listed[j]? with
    | none => rw [h5] at hun; simp at hun
    | some b => rw [h5] at hun h4; simp at hun h4; rw [hun] at h4; cases h4
  · exact h1
theorem Closed.set {listed : Array Bool} {j : Nat} {o : Oper} (h : Closed ops listed) (hoj : ops[j]? = some o) (hr : ∀ e ∈ o.after, Region.binds .any e = true → listed.getD e.on false = true) : Closed ops (listed.setIfInBounds j true) := fun i p hp hi e he hb => by
  refine getD_set_true ?_
  by_cases hij : i = j
  · subst hij
    rw [hoj] at hp; cases hp
    exact hr e he hb
  · exact h i p hp (by rwa [getD_set_ne false (Ne.symm hij)] at hi) e he hb
structure PlanSt (ops : Array Oper) (fs : List Fact) (C : World → Prop) (listed : Array Bool) (xs : Nat → Value) (W : World) : Prop where
  size : listed.size = ops.size
  closed : Closed ops listed
  c : C W
  f : ∀ j, listed.getD j false = true → pickF fs j (xs j) W
theorem getD_of {listed : Array Bool} {j : Nat} (h : listed.getD j true = true) (hj : j < listed.size) : listed.getD j false = true := by
  rw [Array.getD_eq_getD_getElem?, Array.getElem?_eq_getElem hj] at h ⊢
  exact h
theorem getD_both' {listed : Array Bool} {j : Nat} (h : listed.getD j true = false) : listed.getD j false = false := by
  rw [Array.getD_eq_getD_getElem?] at h ⊢
  cases h5 : listed[j]? with
  | none => rw [h5] at h; simp at h
  | some b => rw [h5] at h; simpa using h
theorem PlanSt.go {fs : List Fact} {C : World → Prop} {listed : Array Bool} {xs : Nat → Value} {W W' : World} {j : Nat} {o : Oper} {v : Value} (h : PlanSt ops fs C listed xs W) (hst : staysA fs) (hC : ∀ W W', C W → Below W.heap.size W W' → C W')
    (hoj : ops[j]? = some o) (hr : ∀ e ∈ o.after, Region.binds .any e = true → listed.getD e.on false = true) (hb : Below W.heap.size W W') (hv : pickF fs j v W') : PlanSt ops fs C (listed.setIfInBounds j true) (upd xs j v) W' :=
  ⟨by simpa using h.size, h.closed.set hoj hr, hC _ _ h.c hb, fun i hi => by
    by_cases hij : i = j
    · subst hij; simpa [upd] using hv
    · simp only [upd, if_neg hij]
      rw [getD_set_ne false (Ne.symm hij)] at hi
      exact stays_pick fs i hst _ _ _ (h.f i hi) hb⟩
theorem PlanSt.facts (a : Act) {fs : List Fact} {C : World → Prop} {listed : Array Bool} {xs : Nat → Value} {W : World} {o : Oper} {L : List (Nat × Tmp)} (h : PlanSt ops fs C listed xs W) (hL : lookB ops o L = true)
    (hr : ∀ e ∈ o.after, Region.binds .any e = true → listed.getD e.on false = true) : factsL fs xs W L ∧ lookF ops o xs a ops.size = putL xs a L := by
  simp only [lookB, Bool.and_eq_true, beq_iff_eq] at hL
  refine ⟨facts_of L fun p hp => h.f _ ?_, by rw [lookF_putL, hL.1]⟩
  obtain ⟨e, he, hb, h2⟩ := waitsB_spec (List.all_eq_true.1 hL.2 p hp)
  rw [← h2]; exact hr e he hb
theorem eff_step {Q : Exit → Act → World → Prop} {fs : List Fact} {C : World → Prop} {a : Act} {listed : Array Bool} {xs : Nat → Value} {W : World} {j : Nat} {o : Oper} {f : Nat}
    (hsel : Region.noSelect ops = true) (hd : Dsts ops) (hst : staysA fs) (hC : ∀ W W', C W → Below W.heap.size W W' → C W') (hS : PlanSt ops fs C listed xs W) (hoj : ops[j]? = some o)
    (hr : ∀ e ∈ o.after, Region.binds .any e = true → listed.getD e.on false = true) (he : planEff P ops fs C a o (pickF fs j))
    (k : ∀ v W', PlanSt ops fs C (listed.setIfInBounds j true) (upd xs j v) W' → wpAny P .any ops Q f (listed.setIfInBounds j true) (putsF ops (upd xs j v) a ops.size) W') :
    wpOp P ops Q j (wpAny P .any ops Q f (listed.setIfInBounds j true)) (putsF ops xs a ops.size) W := by
  have hjs := (Array.getElem?_eq_some_iff.1 hoj).1
  obtain ⟨L, hL, hp⟩ := he
  obtain ⟨hfl, hlk⟩ := hS.facts a hL hr
  obtain ⟨h1, h2⟩ := exec_rest (ops := ops) (o := o) (fun cs b => Region.noSelect_spec hsel j o cs b hoj) (xs := xs) (lookF ops o xs a ops.size) ops.size
  rw [← putsF_split hd, hlk] at h1 h2
  refine wpOp_of_V (K := fun v W' => Below W.heap.size W W' ∧ pickF fs j v W') hoj h1 h2 (hp xs W hS.c hfl _ (fun v W' h1 h2 => ⟨h1, h2⟩)) ?_
  rintro v W' ⟨h3, h4⟩
  rw [putsF_put hd a hoj ops.size hjs]
  exact k v W' (hS.go hst hC hoj hr h3 h4)
theorem all_listed (hb : backB ops = true) {listed : Array Bool} (hs : listed.size = ops.size) (hnone : Region.ready .any ops listed = []) : ∀ n j, j < n → j < ops.size → listed.getD j false = true
  | 0, _, h, _ => by omega
  | n + 1, j, h, hjs => by
    have ihn := all_listed hb hs hnone n
    rcases Nat.lt_or_ge j n with h | h
    · exact ihn j h hjs
    · have ho' := Array.getElem?_eq_getElem hjs
      cases hlj : listed.getD j true with
      | true => exact getD_of hlj (by omega)
      | false =>
        have hr : j ∈ Region.ready .any ops listed := mem_ready.2 ⟨hlj, _, ho', fun e he hbn => by
          have h1 := List.all_eq_true.1 hb j (List.mem_range.2 hjs)
          simp only [ho', Array.all_eq_true_iff_forall_mem] at h1
          have h2 := h1 e he
          simp [hbn] at h2
          exact ihn e.on (by omega) (by omega)⟩
        rw [hnone] at hr; cases hr
theorem putL_congr {xs ys : Nat → Value} {a : Act} : ∀ (L : List (Nat × Tmp)), (∀ p ∈ L, xs p.1 = ys p.1) → putL xs a L = putL ys a L
  | [], _ => rfl
  | p :: l, h => by simp only [putL, putL_congr l fun q hq => h q (by simp [hq]), h p (by simp)]
/-- what stands behind the last operation: it yields its value in whatever world -/
structure PostAt (P : Program) (ops : Array Oper) (s : Nat) (a : Act) (zs : Nat → Value) (j : Nat) : Prop where
  ex : ∃ o L, ops[j]? = some o ∧ lookB ops o L = true ∧ (∀ p ∈ L, p.1 ≠ s) ∧ apartB ops j o = true ∧ Yields P ops o (zs j) (putL zs a L)
theorem post_run {Q : Exit → Act → World → Prop} {a : Act} {s : Nat} {zs : Nat → Value} {W : World} (hsel : Region.noSelect ops = true) (hd : Dsts ops) (hb : backB ops = true) (hQ : ∀ c (a : Act) d v w, Q (.panic c) (a.put d v) w → Q (.panic c) a w)
    (hq : Q .normal (putsF ops zs a ops.size) W) : ∀ (f : Nat) (listed : Array Bool) (ys : Nat → Value), listed.size = ops.size → (openL ops.size listed).length = f → (∀ j, j < ops.size → listed.getD j true = false → PostAt P ops s a zs j) → (∀ j, listed.getD j false = true → ys j = zs j) →
      wpAny P .any ops Q f listed (putsF ops ys a ops.size) W := by
  intro f
  induction f with
  | zero =>
    intro listed ys hs ho _ hy
    have hnil := List.eq_nil_of_length_eq_zero ho
    have hall : ∀ j, j < ops.size → listed.getD j false = true := fun j hj => by
      have h1 : j ∉ openL ops.size listed := by rw [hnil]; simp
      rw [openL, List.mem_filter] at h1
      cases h : listed.getD j true with
      | true => exact getD_of h (by rw [hs]; exact hj)
      | false => exact absurd ⟨List.mem_range.2 hj, by simp only [h]; rfl⟩ h1
    refine ⟨List.eq_nil_iff_forall_not_mem.2 fun j hj => ?_, ?_⟩
    · obtain ⟨h1, o, h2, -⟩ := mem_ready.1 hj
      have h3 := hall j (Array.getElem?_eq_some_iff.1 h2).1
      rw [getD_both' h1] at h3; cases h3
    · rw [putsF_congr a ops.size fun k hk => hy k (hall k hk)]; exact hq
  | succ f ih =>
    intro listed ys hs ho hpo hy
    obtain ⟨j, ⟨hj1, hj2⟩, hmin⟩ : ∃ j, (j < ops.size ∧ listed.getD j true = false) ∧ ∀ i, i < j → ¬ (i < ops.size ∧ listed.getD i true = false) := by
      obtain ⟨j0, h0⟩ : ∃ j, j < ops.size ∧ listed.getD j true = false := by
        match hl : openL ops.size listed with
        | [] => rw [hl] at ho; cases ho
        | j :: _ =>
          have h1 : j ∈ openL ops.size listed := by rw [hl]; simp
          rw [openL, List.mem_filter] at h1
          exact ⟨j, List.mem_range.1 h1.1, by simpa using h1.2⟩
      induction j0 using Nat.strongRecOn with
      | _ j ihj =>
        by_cases h : ∃ i, i < j ∧ (i < ops.size ∧ listed.getD i true = false)
        · obtain ⟨i, hi, h2⟩ := h; exact ihj i hi h2
        · exact ⟨j, h0, fun i hi h2 => h ⟨i, hi, h2⟩⟩
    obtain ⟨o, L, hoj, hL, hLs, hap, hyv⟩ := (hpo j hj1 hj2).ex
    have hr : ∀ e ∈ o.after, Region.binds .any e = true → listed.getD e.on false = true := fun e he hbn => by
      have h1 := List.all_eq_true.1 hb j (List.mem_range.2 hj1)
      simp only [hoj, Array.all_eq_true_iff_forall_mem] at h1
      have h2 := h1 e he
      simp [hbn] at h2
      cases h3 : listed.getD e.on true with
      | true => exact getD_of h3 (by rw [hs]; omega)
      | false => exact absurd ⟨by omega, h3⟩ (hmin e.on h2)
    simp only [lookB, Bool.and_eq_true, beq_iff_eq] at hL
    have hlk : lookF ops o ys a ops.size = putL zs a L := by
      rw [lookF_putL, hL.1]
      refine putL_congr L fun p hp => hy _ ?_
      obtain ⟨e, he, hb', h2⟩ := waitsB_spec (List.all_eq_true.1 hL.2 p hp)
      rw [← h2]; exact hr e he hb'
    obtain ⟨h1, h2⟩ := exec_rest (ops := ops) (o := o) (fun cs b => Region.noSelect_spec hsel j _ cs b hoj) (xs := ys) (lookF ops o ys a ops.size) ops.size
    rw [← putsF_split hd, hlk] at h1 h2
    refine wpAny_first hoj (Region.noSelect_spec hsel) (fun c a w h => hQ c a _ _ w h) f listed _ W (apart_listed hap hr) (mem_ready.2 ⟨hj2, _, hoj, hr⟩) (hyv.of_same h1 h2) ?_
    rw [putsF_put hd a hoj ops.size hj1]
    refine ih _ _ (by simpa using hs) (by have := openL_set hs hj2; omega) (fun i hi1 hi2 => hpo i hi1 ?_) (fun i hi => ?_)
    · by_cases hij : i = j
      · subst hij; exact hj2
      · rwa [getD_set_ne true (Ne.symm hij)] at hi2
    · by_cases hij : i = j
      · subst hij; simp [upd]
      · simp only [upd, if_neg hij]
        rw [getD_set_ne false (Ne.symm hij)] at hi
        exact hy i hi
theorem wpAny_plan {Q : Exit → Act → World → Prop} {fs : List Fact} {C : World → Prop} {a : Act} {s : Nat} {os : Oper} {La : List Nat} {ks : List PKind} (hsel : Region.noSelect ops = true) (hd : Dsts ops) (hb : backB ops = true) (hst : staysA fs)
    (hC : ∀ W W', C W → Below W.heap.size W W' → C W') (hks : kindsB ops s La ks = true) (hpath : pathB ops [s] La = true) (hos : ops[s]? = some os) (hfs : pickF fs s = noF) (hQ : ∀ c (a : Act) d v w, Q (.panic c) (a.put d v) w → Q (.panic c) a w)
    (hp : planAll P ops fs C a ks ops.toList fs) (Ls : List (Nat × Tmp)) (hLs : lookB ops os Ls = true)
    (hend : ∀ xs W, C W → (∀ j, j < ops.size → j ≠ s → pickF fs j (xs j) W) → opV P ops os (putL xs a Ls) W fun v W' => Q .normal (putsF ops (upd xs s v) a ops.size) W') :
    ∀ (f : Nat) (listed : Array Bool) (xs : Nat → Value) (W : World), PlanSt ops fs C listed xs W → listed.getD s true = false → (openL ops.size listed).length = f →
      wpAny P .any ops Q f listed (putsF ops xs a ops.size) W := by
  have hss := (Array.getElem?_eq_some_iff.1 hos).1
  have back : ∀ (j : Nat) (o : Oper), ops[j]? = some o → ∀ e ∈ o.after, Region.binds .any e = true → e.on < j := fun j o hj e he hbn => by
    have h1 := List.all_eq_true.1 hb j (List.mem_range.2 (Array.getElem?_eq_some_iff.1 hj).1)
    simp only [hj, Array.all_eq_true_iff_forall_mem] at h1
    simpa [hbn] using h1 e he
  have kind : ∀ (j : Nat) (o : Oper), ops[j]? = some o → (ks[j]? = some .eff ∧ planEff P ops fs C a o (pickF fs j) ∧ j ∈ La) ∨
      (ks[j]? = some .pur ∧ planPur P ops fs C a o (pickF fs j) ∧ apartB ops j o = true ∧ j ≠ s ∧ ∀ e ∈ o.after, Region.binds .any e = true → freeK ks e.on = true) ∨
      (ks[j]? = some .post ∧ planPur P ops fs C a o (pickF fs j) ∧ apartB ops j o = true ∧ j ≠ s ∧ waitsB o s = true ∧ ∀ p ∈ lookIdx ops o ops.size, p.1 ≠ s) ∨ (ks[j]? = some .last ∧ j = s) := fun j o hj => by
    have h1 := List.all_eq_true.1 hks j (List.mem_range.2 (Array.getElem?_eq_some_iff.1 hj).1)
    rcases planAll_at ks ops.toList fs j o hp (by simpa using hj) with ⟨h2, h3⟩ | ⟨h2, h3⟩ | ⟨h2, h3⟩ | h2
    · simp only [h2, hj] at h1; exact .inl ⟨h2, h3, by simpa using h1⟩
    · simp only [h2, hj, Bool.and_eq_true, Bool.not_eq_true', beq_eq_false_iff_ne] at h1
      refine .inr (.inl ⟨h2, h3, h1.1.1, h1.1.2, fun e he hbn => ?_⟩)
      have h4 := Array.all_eq_true_iff_forall_mem.1 h1.2 e he
      simpa [hbn] using h4
    · simp only [h2, hj, Bool.and_eq_true, Bool.not_eq_true', beq_eq_false_iff_ne] at h1
      refine .inr (.inr (.inl ⟨h2, h3, h1.1.1.1, h1.1.1.2, h1.1.2, fun p hp => ?_⟩))
      simpa using List.all_eq_true.1 h1.2 p hp
    · simp only [h2, hj] at h1; exact .inr (.inr (.inr ⟨h2, by simpa using h1⟩))
  intro f
  induction f with
  | zero =>
    intro listed xs W hS hs ho
    have hnil := List.eq_nil_of_length_eq_zero ho
    have : s ∈ openL ops.size listed := by rw [openL, List.mem_filter]; exact ⟨List.mem_range.2 hss, by rw [hs]; rfl⟩
    rw [hnil] at this; cases this
  | succ f ih =>
    intro listed xs W hS hs ho
    by_cases hopen : ∃ j, j < ops.size ∧ freeK ks j = true ∧ listed.getD j true = false
    · by_cases hLa : ∀ j ∈ La, listed.getD j false = true
      · obtain ⟨j, ⟨hj1, hj2, hj3⟩, hmin⟩ : ∃ j, (j < ops.size ∧ freeK ks j = true ∧ listed.getD j true = false) ∧ ∀ i, i < j → ¬ (i < ops.size ∧ freeK ks i = true ∧ listed.getD i true = false) := by
          obtain ⟨j0, h0⟩ := hopen
          induction j0 using Nat.strongRecOn with
          | _ j ihj =>
            by_cases h : ∃ i, i < j ∧ (i < ops.size ∧ freeK ks i = true ∧ listed.getD i true = false)
            · obtain ⟨i, hi, h2⟩ := h; exact ihj i hi h2
            · exact ⟨j, h0, fun i hi h2 => h ⟨i, hi, h2⟩⟩
        have hoj := Array.getElem?_eq_getElem hj1
        rcases kind j _ hoj with ⟨-, -, h⟩ | ⟨-, hpu, hap, hne, hfr⟩ | ⟨h, -⟩ | ⟨h, -⟩
        · have := hLa j h
          rw [getD_both' hj3] at this; cases this
        · have hr : ∀ e ∈ (ops[j]).after, Region.binds .any e = true → listed.getD e.on false = true := fun e he hbn => by
            have h2 := back j _ hoj e he hbn
            cases h3 : listed.getD e.on true with
            | true => exact getD_of h3 (by rw [hS.size]; omega)
            | false => exact absurd ⟨by omega, hfr e he hbn, h3⟩ (hmin e.on h2)
          obtain ⟨L, hL, hpp⟩ := hpu
          obtain ⟨hfl, hlk⟩ := hS.facts a hL hr
          obtain ⟨e, he, hy⟩ := hpp xs W hS.c hfl
          obtain ⟨h1, h2⟩ := exec_rest (ops := ops) (o := ops[j]) (fun cs b => Region.noSelect_spec hsel j _ cs b hoj) (xs := xs) (lookF ops ops[j] xs a ops.size) ops.size
          rw [← putsF_split hd, hlk] at h1 h2
          refine wpAny_first hoj (Region.noSelect_spec hsel) (fun c a w h => hQ c a _ _ w h) f listed _ W (apart_listed hap hr) (mem_ready.2 ⟨hj3, _, hoj, hr⟩) (hy.of_same h1 h2) ?_
          rw [putsF_put hd a hoj ops.size hj1]
          exact ih _ _ _ (hS.go hst hC hoj hr (Below.refl _ _) he) (by rw [getD_set_ne true hne]; exact hs) (by have := openL_set hS.size hj3; omega)
        · simp only [freeK, h] at hj2; cases hj2
        · simp only [freeK, h] at hj2; cases hj2
      · refine ⟨fun hnone => ?_, fun j hj => ?_⟩
        · exfalso
          obtain ⟨j, h1, h2, h3⟩ := hopen
          have := all_listed hb hS.size hnone (j + 1) j (by omega) h1
          rw [getD_both' h3] at this; cases this
        · obtain ⟨hun, o, hoj, hall⟩ := mem_ready.1 hj
          have heff : planEff P ops fs C a o (pickF fs j) ∧ j ≠ s := by
            have notS : j ≠ s := fun e => by
              subst e
              refine hLa fun i hi => path_listed hS.closed La [j] hpath (fun k hk p hp => ?_) i hi
              obtain rfl : k = j := by simpa using hk
              rw [hoj] at hp; cases hp
              exact hall
            rcases kind j o hoj with ⟨-, h, -⟩ | ⟨-, h, -⟩ | ⟨-, h, -⟩ | ⟨-, h⟩
            · exact ⟨h, notS⟩
            · exact ⟨h.eff, notS⟩
            · exact ⟨h.eff, notS⟩
            · exact absurd h notS
          exact eff_step hsel hd hst hC hS hoj hall heff.1 fun v W' hS' => ih _ _ _ hS' (by rw [getD_set_ne true heff.2]; exact hs) (by have := openL_set hS.size hun; omega)
    · have hall : ∀ j, j < ops.size → freeK ks j = true → listed.getD j false = true := fun j hj hjs => by
        cases h : listed.getD j true with
        | true => exact getD_of h (by rw [hS.size]; exact hj)
        | false => exact absurd ⟨j, hj, hjs, h⟩ hopen
      have hpost : ∀ j, listed.getD j false = true → freeK ks j = true := fun j hl => by
        have hjs : j < ops.size := by
          rcases Nat.lt_or_ge j ops.size with h | h
          · exact h
          · rw [Array.getD_eq_getD_getElem?, Array.getElem?_eq_none (by rw [hS.size]; exact h)] at hl; simp at hl
        rcases kind j _ (Array.getElem?_eq_getElem hjs) with ⟨h, -⟩ | ⟨h, -⟩ | ⟨h, -, -, -, h2, -⟩ | ⟨-, h⟩
        · simp [freeK, h]
        · simp [freeK, h]
        · obtain ⟨e, he, hbn, h3⟩ := waitsB_spec h2
          have := hS.closed j _ (Array.getElem?_eq_getElem hjs) hl e he hbn
          rw [h3, getD_both' hs] at this; cases this
        · subst h; rw [getD_both' hs] at hl; cases hl
      have hpost' : ∀ j, j < ops.size → j ≠ s → freeK ks j = false → ks[j]? = some .post := fun j hj hjs hf => by
        rcases kind j _ (Array.getElem?_eq_getElem hj) with ⟨h, -⟩ | ⟨h, -⟩ | ⟨h, -⟩ | ⟨-, h⟩
        · simp [freeK, h] at hf
        · simp [freeK, h] at hf
        · exact h
        · exact absurd h hjs
      have hrs : ∀ e ∈ os.after, Region.binds .any e = true → listed.getD e.on false = true := by
        -- what s waits for is no post: posts wait for s
        intro e he hbn
        have h2 := back s _ hos e he hbn
        refine hall _ (by omega) ?_
        cases hf : freeK ks e.on with
        | true => rfl
        | false =>
          have hk := hpost' e.on (by omega) (by omega) hf
          rcases kind e.on _ (Array.getElem?_eq_getElem (by omega)) with ⟨h, -⟩ | ⟨h, -⟩ | ⟨-, -, -, -, h, -⟩ | ⟨h, -⟩
          · rw [hk] at h; cases h
          · rw [hk] at h; cases h
          · obtain ⟨e2, he2, hb2, h3⟩ := waitsB_spec h
            have := back e.on _ (Array.getElem?_eq_getElem (by omega)) e2 he2 hb2
            omega
          · rw [hk] at h; cases h
      -- the values of the posts
      have comp : ∀ n, n ≤ ops.size → ∃ zs : Nat → Value, (∀ j, freeK ks j = true → zs j = xs j) ∧ zs s = xs s ∧ ∀ j, j < n → j ≠ s → freeK ks j = false → pickF fs j (zs j) W ∧ PostAt P ops s a zs j := fun n => by
        induction n with
        | zero => exact fun _ => ⟨xs, fun _ _ => rfl, rfl, fun j hj => by omega⟩
        | succ n ihn =>
          intro hn
          obtain ⟨zs, h1, h1s, h2⟩ := ihn (by omega)
          by_cases hc : n ≠ s ∧ freeK ks n = false
          · have hoj := Array.getElem?_eq_getElem (show n < ops.size by omega)
            have hk := hpost' n (by omega) hc.1 hc.2
            rcases kind n _ hoj with ⟨h, -⟩ | ⟨h, -⟩ | ⟨-, hpu, hap, -, hws, hlk⟩ | ⟨h, -⟩
            · rw [hk] at h; cases h
            · rw [hk] at h; cases h
            · obtain ⟨L, hL, hpp⟩ := hpu
              have hL' := hL
              simp only [lookB, Bool.and_eq_true, beq_iff_eq] at hL'
              have hLt : ∀ p ∈ L, p.1 < n ∧ p.1 ≠ s := fun p hp => by
                obtain ⟨e, he, hbn, h3⟩ := waitsB_spec (List.all_eq_true.1 hL'.2 p hp)
                exact ⟨by rw [← h3]; exact back n _ hoj e he hbn, hlk p (by rw [hL'.1]; exact hp)⟩
              obtain ⟨e, he, hy⟩ := hpp zs W hS.c (facts_of L fun p hp => by
                obtain ⟨h3, h4⟩ := hLt p hp
                cases hf : freeK ks p.1 with
                | true => rw [h1 _ hf]; exact hS.f _ (hall _ (by omega) hf)
                | false => exact (h2 p.1 h3 h4 hf).1)
              have hcong : ∀ (L : List (Nat × Tmp)), (∀ p ∈ L, p.1 < n) → putL (upd zs n e) a L = putL zs a L := fun L hl => putL_congr L fun p hp => by simp [upd, Nat.ne_of_lt (hl p hp)]
              refine ⟨upd zs n e, fun j hj => ?_, ?_, fun j hj hjs hf => ?_⟩
              · by_cases hjn : j = n
                · subst hjn; rw [hc.2] at hj; cases hj
                · simp only [upd, if_neg hjn]; exact h1 j hj
              · simp only [upd, if_neg (Ne.symm hc.1)]; exact h1s
              · by_cases hjn : j = n
                · subst hjn
                  refine ⟨by simpa [upd] using he, ⟨_, L, hoj, hL, fun p hp => (hLt p hp).2, hap, ?_⟩⟩
                  rw [hcong L fun p hp => (hLt p hp).1]
                  simpa [upd] using hy
                · obtain ⟨h3, ⟨o', L', h4, h5, h6, h7, h8⟩⟩ := h2 j (by omega) hjs hf
                  simp only [upd, if_neg hjn]
                  refine ⟨h3, ⟨o', L', h4, h5, h6, h7, ?_⟩⟩
                  rw [hcong L' fun p hp => ?_]
                  · simpa only [upd, if_neg hjn] using h8
                  · simp only [lookB, Bool.and_eq_true, beq_iff_eq] at h5
                    obtain ⟨e2, he2, hb2, h9⟩ := waitsB_spec (List.all_eq_true.1 h5.2 p hp)
                    have := back j _ h4 e2 he2 hb2
                    omega
            · rw [hk] at h; cases h
          · refine ⟨zs, h1, h1s, fun j hj hjs hf => h2 j ?_ hjs hf⟩
            rcases Nat.lt_succ_iff_lt_or_eq.1 hj with h | h
            · exact h
            · subst h; exact absurd ⟨hjs, hf⟩ hc
      obtain ⟨zs, z1, z1s, z2⟩ := comp ops.size (Nat.le_refl _)
      have hE := hend zs W hS.c fun j hj hjs => by
        cases hf : freeK ks j with
        | true => rw [z1 j hf]; exact hS.f j (hall j hj hf)
        | false => exact (z2 j hj hjs hf).1
      obtain ⟨-, hlk⟩ := hS.facts a hLs hrs
      have hlz : putL zs a Ls = putL xs a Ls := putL_congr Ls fun p hp => by
        have hL' := hLs
        simp only [lookB, Bool.and_eq_true, beq_iff_eq] at hL'
        obtain ⟨e, he, hbn, h3⟩ := waitsB_spec (List.all_eq_true.1 hL'.2 p hp)
        have h4 := hrs e he hbn
        rw [h3] at h4
        exact z1 _ (hpost _ h4)
      rw [hlz] at hE
      obtain ⟨h1, h2⟩ := exec_rest (ops := ops) (o := os) (fun cs b => Region.noSelect_spec hsel s os cs b hos) (xs := xs) (lookF ops os xs a ops.size) ops.size
      rw [← putsF_split hd, hlk] at h1 h2
      have hrd : s ∈ Region.ready .any ops listed := mem_ready.2 ⟨hs, os, hos, hrs⟩
      refine ⟨fun hnone => (by rw [hnone] at hrd; cases hrd), fun j hj => ?_⟩
      obtain ⟨hun, o, hoj, hallj⟩ := mem_ready.1 hj
      obtain rfl : j = s := by
        rcases kind j o hoj with ⟨h, -⟩ | ⟨h, -⟩ | ⟨-, -, -, -, h, -⟩ | ⟨-, h⟩
        · have := hall j (Array.getElem?_eq_some_iff.1 hoj).1 (by simp [freeK, h])
          rw [getD_both' hun] at this; cases this
        · have := hall j (Array.getElem?_eq_some_iff.1 hoj).1 (by simp [freeK, h])
          rw [getD_both' hun] at this; cases this
        · obtain ⟨e, he, hbn, h3⟩ := waitsB_spec h
          have := hallj e he hbn
          rw [h3, getD_both' hs] at this; cases this
        · exact h
      refine wpOp_of_V hos h1 h2 hE ?_
      intro v W' hq
      rw [putsF_put hd a hos ops.size hss]
      refine post_run (s := j) (zs := upd zs j v) hsel hd hb hQ hq f _ _ (by simpa using hS.size) (by have := openL_set hS.size hs; omega) (fun i hi1 hi2 => ?_) (fun i hi => ?_)
      · by_cases hij : i = j
        · subst hij
          rw [Array.getD_eq_getD_getElem?, Array.getElem?_setIfInBounds_self_of_lt (by rw [hS.size]; exact hss)] at hi2; simp at hi2
        · rw [getD_set_ne true (Ne.symm hij)] at hi2
          have hf : freeK ks i = false := by
            cases hf : freeK ks i with
            | false => rfl
            | true => have := hall i hi1 hf; rw [getD_both' hi2] at this; cases this
          obtain ⟨-, ⟨o', L', h4, h5, h6, h7, h8⟩⟩ := z2 i hi1 hij hf
          refine ⟨o', L', h4, h5, h6, h7, ?_⟩
          rw [putL_congr (ys := zs) L' fun p hp => by simp [upd, h6 p hp]]
          simpa only [upd, if_neg hij] using h8
      · by_cases hij : i = j
        · subst hij; simp [upd]
        · simp only [upd, if_neg hij]
          rw [getD_set_ne false (Ne.symm hij)] at hi
          exact (z1 i (hpost i hi)).symm
theorem openL_all {listed : Array Bool} (hs : listed.size = ops.size) (h : ∀ j, j < ops.size → listed.getD j false = true) : openL ops.size listed = [] := by
  refine List.eq_nil_iff_forall_not_mem.2 fun j hj => ?_
  rw [openL, List.mem_filter] at hj
  have h1 := List.mem_range.1 hj.1
  have h2 := h j h1
  have h3 := hj.2
  rw [Array.getD_eq_getD_getElem?, Array.getElem?_eq_getElem (by omega)] at h2 h3
  simp at h2 h3
  rw [h2] at h3; cases h3
def effB : List PKind → Bool
  | [] => true
  | .eff :: l => effB l
  | .pur :: l => effB l
  | .post :: _ => false
  | .last :: _ => false
theorem effB_at : ∀ (ks : List PKind) (j : Nat), effB ks = true → ks[j]? ≠ some .last
  | [], _, _ => by simp
  | .eff :: l, 0, h => by simp
  | .pur :: l, 0, h => by simp
  | .post :: l, _, h => by cases h
  | .last :: l, _, h => by cases h
  | .eff :: l, j + 1, h => by simpa using effB_at l j h
  | .pur :: l, j + 1, h => by simpa using effB_at l j h
theorem wpAny_planE {Q : Exit → Act → World → Prop} {fs : List Fact} {C : World → Prop} {a : Act} {ks : List PKind} (hsel : Region.noSelect ops = true) (hd : Dsts ops) (hb : backB ops = true) (hst : staysA fs)
    (hC : ∀ W W', C W → Below W.heap.size W W' → C W') (hks : effB ks = true) (hp : planAll P ops fs C a ks ops.toList fs)
    (hend : ∀ xs W, C W → (∀ j, j < ops.size → pickF fs j (xs j) W) → Q .normal (putsF ops xs a ops.size) W) :
    ∀ (f : Nat) (listed : Array Bool) (xs : Nat → Value) (W : World), PlanSt ops fs C listed xs W → (openL ops.size listed).length = f →
      wpAny P .any ops Q f listed (putsF ops xs a ops.size) W := by
  intro f
  induction f with
  | zero =>
    intro listed xs W hS ho
    have hnil := List.eq_nil_of_length_eq_zero ho
    have hall : ∀ j, j < ops.size → listed.getD j false = true := fun j hj => by
      have h1 : j ∉ openL ops.size listed := by rw [hnil]; simp
      rw [openL, List.mem_filter] at h1
      cases h : listed.getD j true with
      | true => exact getD_of h (by rw [hS.size]; exact hj)
      | false => exact absurd ⟨List.mem_range.2 hj, by simp only [h]; rfl⟩ h1
    refine ⟨List.eq_nil_iff_forall_not_mem.2 fun j hj => ?_, hend xs W hS.c fun j hj => hS.f j (hall j hj)⟩
    obtain ⟨h1, o, h2, -⟩ := mem_ready.1 hj
    have h3 := hall j (Array.getElem?_eq_some_iff.1 h2).1
    rw [getD_both' h1] at h3; cases h3
  | succ f ih =>
    intro listed xs W hS ho
    refine ⟨fun hnone => ?_, fun j hj => ?_⟩
    · exfalso
      rw [openL_all hS.size fun j hj => all_listed hb hS.size hnone (j + 1) j (by omega) hj] at ho
      cases ho
    · obtain ⟨hun, o, hoj, hall⟩ := mem_ready.1 hj
      have heff : planEff P ops fs C a o (pickF fs j) := by
        rcases planAll_at ks ops.toList fs j o hp (by simpa using hoj) with ⟨-, h⟩ | ⟨-, h⟩ | ⟨-, h⟩ | h
        · exact h
        · exact h.eff
        · exact h.eff
        · exact absurd h (effB_at ks j hks)
      exact eff_step hsel hd hst hC hS hoj hall heff fun v W' hS' => ih _ _ _ hS' (by have := openL_set hS.size hun; omega)
end
theorem pick_out : ∀ (fs : List Fact) (j : Nat), fs.length ≤ j → pickF fs j = noF
  | [], _, _ => rfl
  | _ :: l, 0, h => by simp at h
  | _ :: l, j + 1, h => pick_out l j (by simpa using h)
theorem openL_none {l : List Oper} : (openL l.toArray.size (Array.replicate l.toArray.size false)).length = l.toArray.size := by
  unfold openL
  rw [List.filter_eq_self.2]
  · simp
  · intro j hj
    have := List.mem_range.1 hj
    rw [Array.getD_eq_getD_getElem?, Array.getElem?_eq_getElem (by simpa using this)]
    simp
/-- The law: a region that draws its order, by a plan; operation s comes last, but for some that yield their values in whatever world. -/
theorem wp_region_plan {P : Program} {id : Nat} {Q : Exit → Act → World → Prop} {a : Act} {w : World} {l : List Oper} (s : Nat) (La : List Nat) (ks : List PKind) (fs : List Fact) {os : Oper} (hos : l[s]? = some os) (Ls As : List (Nat × Tmp))
    (hm : P.follows .mixedOrders = true) (hsel : Region.noSelect l.toArray = true) (hd : dstsB l.toArray = true) (hb : backB l.toArray = true) (hks : kindsB l.toArray s La ks = true) (hpath : pathB l.toArray [s] La = true) (hLs : lookB l.toArray os Ls = true)
    (hAs : (allIdx l.toArray l.length == As) = true) (hfl : (fs.length == l.length) = true) (hfs : pickF fs s = noF)
    (hp : planAll P l.toArray fs (fun W => Below w.heap.size w W) a ks l fs)
    (hend : ∀ xs W, Below w.heap.size w W → factsA xs W 0 fs → opV P l.toArray os (putL xs a Ls) W fun v W' => Q .normal (putL (upd xs s v) a As) W') (hst : staysA fs) : (Code.region id l.toArray true).wp P Q a w := by
  refine wp_region_noPanic (wp_region_any hm ?_)
  have hA : allIdx l.toArray l.length = As := by simpa using hAs
  have hF : fs.length = l.length := by simpa using hfl
  have hss := (Array.getElem?_eq_some_iff.1 (show l.toArray[s]? = some os by simpa using hos)).1
  have h := wpAny_plan (Q := NoPanic Q) (C := fun W => Below w.heap.size w W) hsel (dsts_spec hd) hb hst (fun W W' h1 h2 => h1.trans (h2.mono h1.size)) hks hpath (by simpa using hos) hfs (fun _ _ _ _ _ h => h) (by simpa using hp) Ls hLs (fun xs W h1 h2 => by
      have h3 := hend xs W h1 (factsA_of fs 0 fun j => by
        rw [Nat.zero_add]
        by_cases hj : j < l.length
        · by_cases hjs : j = s
          · subst hjs; rw [hfs]; trivial
          · exact h2 j (by simpa using hj) hjs
        · rw [pick_out fs j (by omega)]; trivial)
      simp only [putsF_putL, List.size_toArray, hA]
      exact h3)
    l.toArray.size (Array.replicate l.toArray.size false) (fun k => slotOf a ((l.toArray[k]?).bind (·.dst))) w.drew
    ⟨by simp, fun j o _ hl => (by rw [getD_replicate_false] at hl; cases hl), (Below.refl _ w).drew, fun j hj => (by rw [getD_replicate_false] at hj; cases hj)⟩
    (getD_in (by simpa using hss) (getD_replicate_false _ _)) openL_none
  rw [putsF_self] at h
  exact h
/-- The same, where no operation must come last. -/
theorem wp_region_planE {P : Program} {id : Nat} {Q : Exit → Act → World → Prop} {a : Act} {w : World} {l : List Oper} (ks : List PKind) (fs : List Fact) (As : List (Nat × Tmp))
    (hm : P.follows .mixedOrders = true) (hsel : Region.noSelect l.toArray = true) (hd : dstsB l.toArray = true) (hb : backB l.toArray = true) (hks : effB ks = true)
    (hAs : (allIdx l.toArray l.length == As) = true) (hfl : (fs.length == l.length) = true)
    (hp : planAll P l.toArray fs (fun W => Below w.heap.size w W) a ks l fs)
    (hend : ∀ xs W, Below w.heap.size w W → factsA xs W 0 fs → Q .normal (putL xs a As) W) (hst : staysA fs) : (Code.region id l.toArray true).wp P Q a w := by
  refine wp_region_any hm ?_
  have hA : allIdx l.toArray l.length = As := by simpa using hAs
  have hF : fs.length = l.length := by simpa using hfl
  have h := wpAny_planE (Q := Q) (C := fun W => Below w.heap.size w W) hsel (dsts_spec hd) hb hst (fun W W' h1 h2 => h1.trans (h2.mono h1.size)) hks (by simpa using hp) (fun xs W h1 h2 => by
      have h3 := hend xs W h1 (factsA_of fs 0 fun j => by
        rw [Nat.zero_add]
        by_cases hj : j < l.length
        · exact h2 j (by simpa using hj)
        · rw [pick_out fs j (by omega)]; trivial)
      simpa only [putsF_putL, List.size_toArray, hA] using h3)
    l.toArray.size (Array.replicate l.toArray.size false) (fun k => slotOf a ((l.toArray[k]?).bind (·.dst))) w.drew
    ⟨by simp, fun j o _ hl => (by rw [getD_replicate_false] at hl; cases hl), (Below.refl _ w).drew, fun j hj => (by rw [getD_replicate_false] at hj; cases hj)⟩ openL_none
  rw [putsF_self] at h
  exact h
theorem opV_free {P : Program} {ops : Array Oper} {o : Oper} {a : Act} {w : World} {K : Value → World → Prop} (h : o.guard = none) (k : uponV P K ((execOp a.eval o).run P w)) : opV P ops o a w K := by
  unfold opV
  rw [if_pos (by unfold Region.wanted; rw [h])]
  exact k
theorem yields_free {P : Program} {ops : Array Oper} {o : Oper} {a : Act} {v : Value} (h : o.guard = none) (k : ∀ w, (execOp a.eval o).run P w = .ok (.value v) w) : Yields P ops o v a :=
  .inl ⟨by unfold Region.wanted; rw [h], k⟩
end Go.Proofs.Ytiikkcifdhcejaa

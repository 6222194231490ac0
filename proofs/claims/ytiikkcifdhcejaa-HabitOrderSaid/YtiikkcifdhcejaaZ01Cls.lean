/- A class of worlds of one's own for regions that draw their order; maps with integer keys, entry by entry. -/
import Derived.Test.YtiikkcifdhcejaaZ00Mem
import Derived.MapKept
import Derived.Lib.Hide
namespace Go.Proofs.Ytiikkcifdhcejaa
open Go.RowKit

/-- a world of a class -/
structure Cls (K : World → Prop) where
  tgt : World
  h : K tgt
def World.cls {K : World → Prop} (E : Cls K) : World := E.tgt
theorem cls_of {K : World → Prop} {W : World} (h : K W) : ∃ E : Cls K, W = World.cls E := ⟨⟨W, h⟩, rfl⟩
theorem cls_get {K : World → Prop} {W : World} (h : ∃ E : Cls K, W = World.cls E) : K W := by obtain ⟨E, rfl⟩ := h; exact E.h
theorem wp_region_cls {P : Program} {id : Nat} {Q : Exit → Act → World → Prop} {a : Act} {w : World} {l : List Oper} (K : World → Prop) (hK : K w.drew) (hm : P.follows .mixedOrders = true) (hB : Region.lexB .any l.toArray = true)
    (h : wpQuiet P l.toArray (fun w' => ∃ E : Cls K, w' = World.cls E) (fun a' => ∀ w', (∃ E : Cls K, w' = World.cls E) → Q .normal a' w') l a) : (Code.region id l.toArray true).wp P Q a w :=
  wp_region_quiet (C := fun w' => ∃ E : Cls K, w' = World.cls E) hm hB (cls_of hK) (by simpa using h)
theorem wpIn_region_cls {P : Program} {lp n : Nat} {id : Nat} {Q : Exit → Act → World → Prop} {a : Act} {w : World} {l : List Oper} (K : World → Prop) (hK : K w.drew) (hm : P.follows .mixedOrders = true) (hB : Region.lexB .any l.toArray = true) (hnd : noDefer l.toArray = true)
    (h : wpQuiet P l.toArray (fun w' => ∃ E : Cls K, w' = World.cls E) (fun a' => ∀ w', (∃ E : Cls K, w' = World.cls E) → Q .normal a' w') l a) : (Code.region id l.toArray true).wpIn (Fence.wide.inRound lp) n P Q a w := by
  simp only [Region.lexB, Bool.and_eq_true] at hB
  refine wpIn_region_any hm (wpAnyIn_of_quietR (C := fun w' => ∃ E : Cls K, w' = World.cls E) (Q := fun a' => ∀ w', (∃ E : Cls K, w' = World.cls E) → Q .normal a' w') hnd (fun _ w' hw' h => h w' hw') _ _ _ _ (cls_of hK) ?_)
  have := wpAnyQ_lex (P := P) (C := fun w' => ∃ E : Cls K, w' = World.cls E) (md := .any) hB.1 l.toArray.toList 0 (Array.replicate l.toArray.size false) a (by simp) (by simpa using hB.2) (by simpa using h)
  simpa using this
theorem Calls.cls_of {P : Program} {f : FuncId} {args : Array Value} {K : World → Prop} {E : Cls K} {v : Value}
    (h : Calls P f args (World.cls E) fun e w' => e = .returned v ∧ K w') : Calls P f args (World.cls E) fun e w'' => e = .returned v ∧ ∃ E : Cls K, w'' = World.cls E :=
  h.mono fun _ _ ⟨he, hb⟩ => ⟨he, Go.Proofs.Ytiikkcifdhcejaa.cls_of hb⟩
theorem Calls.cls_below {P : Program} {f : FuncId} {args : Array Value} {K : World → Prop} {E : Cls K} {v : Value} (hK : ∀ W W', K W → Below W.heap.size W W' → K W')
    (h : Calls P f args (World.cls E) fun e w' => e = .returned v ∧ Below (World.cls E).heap.size (World.cls E) w') : Calls P f args (World.cls E) fun e w'' => e = .returned v ∧ ∃ E : Cls K, w'' = World.cls E :=
  h.mono fun _ _ ⟨he, hb⟩ => ⟨he, Go.Proofs.Ytiikkcifdhcejaa.cls_of (hK _ _ E.h hb)⟩

/-! maps whose keys are integers, entry by entry -/
theorem upd_int {P : Program} {w : World} {t kt e : TypeId} {b : Nat} {es : Array MapEntry} {clock : Nat} {q : IntKind} {n : Int} (v : Value) (ht : P.underlying t = some (.map kt e)) (hk : P.underlying kt = some (.int q))
    (hb : w.heap[b]? = some (.map es clock)) (hf : Instr.findNow (.int q) (.int q n) es.toList 0 = some none) :
    (Instr.mapUpdate t (.map (some b)) (.int q n) v).run P w = .ok () (w.putObj b (.map (es.push { key := .int q n, val := v, born := clock }) (clock + 1))) := by
  have h1 := MapKept.run_checkKey (w := w) (P := P) (kt := kt) (k := .int q n) hk (by simp [MapKept.IsKey]) false 9999
  simp [Instr.mapUpdate, run_underlying ht, MapKept.run_getObj_map hb, h1, MapKept.run_findKey hk hf, MapKept.run_setObj_map _ hb, Result.andThen, World.putObj]
theorem look_int {P : Program} {w : World} {t kt e : TypeId} {b : Nat} {es : Array MapEntry} {clock : Nat} {q : IntKind} {n : Int} {i : Nat} {v : Value} (ht : P.underlying t = some (.map kt e)) (hk : P.underlying kt = some (.int q))
    (hb : w.heap[b]? = some (.map es clock)) (hf : Instr.findNow (.int q) (.int q n) es.toList 0 = some (some (i, v))) :
    (Instr.lookup t (.map (some b)) (.int q n) false).run P w = .ok v w := by
  have h1 := MapKept.run_checkKey (w := w) (P := P) (kt := kt) (k := .int q n) hk (by simp [MapKept.IsKey]) es.isEmpty 9999
  simp [Instr.lookup, run_underlying ht, MapKept.run_getObj_map hb, h1, MapKept.run_findKey hk hf, Result.andThen]
theorem wpList_insert_int {P : Program} {ops : Array Oper} {rest : List Oper} {o : Oper} {a : Act} {Q : Exit → Act → World → Prop} {w : World}
    (hg : o.guard = none) (m x v : Operand) (t : TypeId) (hop : o.op = Op.insert t m x v)
    (k e : TypeId) (q : IntKind) (ht : P.underlying t = some (.map k e)) (hk : P.underlying k = some (.int q)) (b : Nat) (es : Array MapEntry) (clock : Nat)
    (hm : a.eval m = .map (some b)) (hb : w.heap[b]? = some (.map es clock)) (n : Int) (val : Value) (hx : a.eval x = .int q n) (hv : a.eval v = val) (hf : Instr.findNow (.int q) (.int q n) es.toList 0 = some none)
    (hK : ∀ w', w'.heap[b]? = some (.map (es.push { key := .int q n, val := val, born := clock }) (clock + 1)) → w.grownBy w' (some b) → w'.heap.size = w.heap.size → wpList P ops Q rest (a.put o.dst undef) w') :
    wpList P ops Q (o :: rest) a w := by
  refine wpList_plain hg fun K' hK' => ?_
  have hrun := upd_int val ht hk hb hf
  unfold Oper.wp
  simp [execOp, hop, hm, hx, hv, hrun, Result.andThen]
  exact hK' _ _ (hK _ (World.putObj_heap_same (Array.getElem?_eq_some_iff.1 hb).1) (grownBy_putObj' w b _) (by simp [World.putObj]))
theorem grown_same {a b c : World} {r : Option Nat} (h : a.grownBy b r) (k : b.grownBy c r) : a.grownBy c r :=
  ⟨k.os.trans h.os, k.tape.trans h.tape, k.output.trans h.output, Nat.le_trans h.size k.size, fun i hi hne => (k.block i (Nat.lt_of_lt_of_le hi h.size) hne).trans (h.block i hi hne)⟩
theorem grown_below {a b c : World} {r : Option Nat} (h : a.grownBy b r) (k : Below b.heap.size b c) : a.grownBy c r :=
  grown_same h ⟨k.os, k.tape, k.output, k.size, fun i hi _ => k.block i hi⟩
theorem below_of_grown {a b : World} {r B : Nat} (hB : B ≤ a.heap.size) (h : a.grownBy b (some r)) (hr : B ≤ r) : Below B a b := ⟨h.os, h.tape, h.output, h.size, fun i hi => h.block i (by omega) (by intro e; have := Option.some.inj e; omega)⟩
theorem Blk.grown {W W' : World} {b : Nat} {cs : Array Value} {t : TypeId} {r : Option Nat} (h : Blk W b cs t) (hg : W.grownBy W' r) (hne : some b ≠ r) : Blk W' b cs t := (hg.block b h.lt hne).trans h
/-! a loop variable in a box of its own -/
abbrev roundActB (T : Array Value) (ps : Array Tmp) (sl : List (Tmp × Nat)) (q : Tmp) (b : Nat) (xs : Array Value) : Act :=
  { tmps := (sl.foldl (fun t (p, i) => t.setIfInBounds p (xs.getD i undef)) ((ps.zip xs).foldl (fun t (p, v) => t.setIfInBounds p v) T)).setIfInBounds q (.pointer (some ⟨b, 0, none⟩)), defers := [] }
theorem wp_rangeB {g : Operand} {ps : Array Tmp} {assign body : Code} {Q : Exit → Act → World → Prop} {a : Act} {w : World} {gf : Nat} {lb : Array Value}
    (hg : a.eval g = .func (.func gf) #[] lb) (eg : Ent gf) {D : World → Prop} {Enc : Nat → World → Array Value → Prop} {N : Nat} (hit : Iter gf lb D Enc N)
    (sl : List (Tmp × Nat)) (q : Tmp) (j : Nat) (ty : TypeId) (I : Nat → World → Prop) (Ix : Code → World → Prop)
    (hI : ∀ k, Stab w.heap.size (I k)) (hIx : ∀ c, Stab w.heap.size (Ix c)) (hE : ∀ k xs, Stab w.heap.size (fun W => Enc k W xs)) (hD : ∀ k W, I k W → D W) (h0 : I 0 w)
    (hps : ∀ k W xs, Enc k W xs → xs.size = ps.size)
    (hassign : ∀ l k xs W (K : Act → World → Prop), Enc k W xs → K (roundActB a.tmps ps sl q W.heap.size xs) (W.alloc (.cells #[xs.getD j undef] ty)) → assign.wpIn (Fence.wide.inRound l) 1 Try.prog (Exit.then K (fun _ _ _ => False)) { tmps := (ps.zip xs).foldl (fun t (p, v) => t.setIfInBounds p v) a.tmps, defers := [] } W)
    (hbody : ∀ l k xs b W, k < N → I k W → Enc k W xs → Blk W b #[xs.getD j undef] ty → w.heap.size < l → l < W.heap.size → body.wpIn (Fence.wide.inRound l) 1 Try.prog (roundOut w.heap.size (I (k + 1)) Ix W) (roundActB a.tmps ps sl q b xs) W)
    (hdone : ∀ D W, I N W → w.heap.size ≤ D → W.heap[D]? = some (.deferred (some [])) → Q .normal { a with defers := { target := .collected D, args := #[] } :: a.defers } W)
    (hstop : ∀ D c W, Ix c W → w.heap.size ≤ D → W.heap[D]? = some (.deferred (some [])) → c.wp Try.prog Q { a with defers := { target := .collected D, args := #[] } :: a.defers } W) :
    (Code.rangeFunc g ps assign body).wp Try.prog Q a w := by
  refine wp_range hg eg hit I Ix (fun k a₁ W => I k W ∧ ∃ xs b, Enc k W xs ∧ Blk W b #[xs.getD j undef] ty ∧ a₁ = roundActB a.tmps ps sl q b xs) hI hIx
    (fun k a₁ => (hI k).and (Stab.ex fun xs => Stab.ex fun b => (hE k xs).and ((Stab.blk _ _ _ _).and (Stab.pure _)))) hD h0
    (fun k W xs _ _ h => hps k W xs h) (fun l k xs W hk hi he h1 h2 => ?_) (fun l k a₁ W hk hax h1 h2 => ?_) hdone hstop
  · refine wpIn_mono (hassign l k xs W (fun a₁ W' => a₁ = roundActB a.tmps ps sl q W.heap.size xs ∧ W' = W.alloc (.cells #[xs.getD j undef] ty)) he ⟨rfl, rfl⟩) ?_
    intro e a₁ W' hp
    have hb : Below W.heap.size W (W.alloc (.cells #[xs.getD j undef] ty)) := (Below.refl _ _).alloc (Nat.le_refl _) _
    cases e with
    | normal => obtain ⟨rfl, rfl⟩ := hp; exact ⟨keepsFrom_below hb, (hI k).below hi hb, xs, W.heap.size, (hE k xs).below he hb, Blk.at_ rfl, rfl⟩
    | ret => exact hp.elim
    | exit id => exact hp.elim
    | goto t => exact hp.elim
    | panic ch => exact hp.elim
    | outgrown => exact hp.elim
  · obtain ⟨hi, xs, b, he, hbk, rfl⟩ := hax
    exact hbody l k xs b W hk hi he hbk h1 h2
theorem wp_rangeBC {g : Operand} {ps : Array Tmp} {assign body : Code} {Q : Exit → Act → World → Prop} {a : Act} {w : World} {gf : Nat} {lb : Array Value}
    (hg : a.eval g = .func (.func gf) #[] lb) (eg : Ent gf) {D : World → Prop} {Enc : Nat → World → Array Value → Prop} {N : Nat} (hit : Iter gf lb D Enc N)
    (sl : List (Tmp × Nat)) (q : Tmp) (bc : Array Value → Array Value) (ty : TypeId) (I : Nat → World → Prop) (Ix : Code → World → Prop)
    (hI : ∀ k, Stab w.heap.size (I k)) (hIx : ∀ c, Stab w.heap.size (Ix c)) (hE : ∀ k xs, Stab w.heap.size (fun W => Enc k W xs)) (hD : ∀ k W, I k W → D W) (h0 : I 0 w)
    (hps : ∀ k W xs, Enc k W xs → xs.size = ps.size)
    (hassign : ∀ l k xs W (K : Act → World → Prop), Enc k W xs → (∀ W', Below W.heap.size W W' → Blk W' W.heap.size (bc xs) ty → K (roundActB a.tmps ps sl q W.heap.size xs) W') → assign.wpIn (Fence.wide.inRound l) 1 Try.prog (Exit.then K (fun _ _ _ => False)) { tmps := (ps.zip xs).foldl (fun t (p, v) => t.setIfInBounds p v) a.tmps, defers := [] } W)
    (hbody : ∀ l k xs b W, k < N → I k W → Enc k W xs → Blk W b (bc xs) ty → w.heap.size < l → l < W.heap.size → body.wpIn (Fence.wide.inRound l) 1 Try.prog (roundOut w.heap.size (I (k + 1)) Ix W) (roundActB a.tmps ps sl q b xs) W)
    (hdone : ∀ D W, I N W → w.heap.size ≤ D → W.heap[D]? = some (.deferred (some [])) → Q .normal { a with defers := { target := .collected D, args := #[] } :: a.defers } W)
    (hstop : ∀ D c W, Ix c W → w.heap.size ≤ D → W.heap[D]? = some (.deferred (some [])) → c.wp Try.prog Q { a with defers := { target := .collected D, args := #[] } :: a.defers } W) :
    (Code.rangeFunc g ps assign body).wp Try.prog Q a w := by
  refine wp_range hg eg hit I Ix (fun k a₁ W => I k W ∧ ∃ xs b, Enc k W xs ∧ Blk W b (bc xs) ty ∧ a₁ = roundActB a.tmps ps sl q b xs) hI hIx
    (fun k a₁ => (hI k).and (Stab.ex fun xs => Stab.ex fun b => (hE k xs).and ((Stab.blk _ _ _ _).and (Stab.pure _)))) hD h0
    (fun k W xs _ _ h => hps k W xs h) (fun l k xs W hk hi he h1 h2 => ?_) (fun l k a₁ W hk hax h1 h2 => ?_) hdone hstop
  · refine wpIn_mono (hassign l k xs W (fun a₁ W' => a₁ = roundActB a.tmps ps sl q W.heap.size xs ∧ Below W.heap.size W W' ∧ Blk W' W.heap.size (bc xs) ty) he (fun W' h1 h2 => ⟨rfl, h1, h2⟩)) ?_
    intro e a₁ W' hp
    cases e with
    | normal => obtain ⟨rfl, hb, hbk⟩ := hp; exact ⟨keepsFrom_below hb, (hI k).below hi hb, xs, W.heap.size, (hE k xs).below he hb, hbk, rfl⟩
    | ret => exact hp.elim
    | exit id => exact hp.elim
    | goto t => exact hp.elim
    | panic ch => exact hp.elim
    | outgrown => exact hp.elim
  · obtain ⟨hi, xs, b, he, hbk, rfl⟩ := hax
    exact hbody l k xs b W hk hi he hbk h1 h2
theorem round2B (T : Array Value) (p q r s : Tmp) (b : Nat) (x y : Value) : roundActB T #[p, q] [(r, 0)] s b #[x, y] = { tmps := (((T.setIfInBounds p x).setIfInBounds q y).setIfInBounds r x).setIfInBounds s (.pointer (some ⟨b, 0, none⟩)), defers := [] } := by simp [roundActB]
theorem keepsFrom_grown {B z : Nat} {W W' : World} {cs : Array Value} {t : TypeId} (h : W.grownBy W' (some z)) (hz : Blk W z cs t) : KeepsFrom B W W' :=
  ⟨h.size, fun k o _ hk ho => (h.block k (Array.getElem?_eq_some_iff.1 hk).1 (by intro e; have e := Option.some.inj e; subst e; unfold Blk at hz; rw [hz] at hk; cases hk; cases ho)).trans hk⟩
end Go.Proofs.Ytiikkcifdhcejaa
namespace Go.Proofs.Ytiikkcifdhcejaa

/-- the greatest common divisor, as an integer -/
def gI (a b : Int) : Int := (Nat.gcd a.toNat b.toNat : Int)
theorem gI_nonneg (a b : Int) : 0 ≤ gI a b := by unfold gI; omega
theorem gI_step {a b : Int} (ha : 0 ≤ a) (hb : 0 ≤ b) : gI b (a % b) = gI a b := by
  obtain ⟨a, rfl⟩ := Int.eq_ofNat_of_zero_le ha
  obtain ⟨b, rfl⟩ := Int.eq_ofNat_of_zero_le hb
  unfold gI
  have e : ((a : Int) % (b : Int)).toNat = a % b := by rw [← Int.natCast_emod]; rfl
  rw [e, Int.toNat_natCast, Int.toNat_natCast, Nat.gcd_comm b, ← Nat.gcd_rec, Nat.gcd_comm]
theorem gI_zero {a : Int} (ha : 0 ≤ a) : gI a 0 = a := by
  unfold gI; simp; omega
theorem gI_zero_left {a : Int} (ha : 0 ≤ a) : gI 0 a = a := by
  unfold gI; simp; omega
theorem gI_comm (a b : Int) : gI a b = gI b a := by unfold gI; rw [Nat.gcd_comm]
theorem gI_pos {a b : Int} (h : 0 < a ∨ 0 < b) : 0 < gI a b := by
  unfold gI
  have : 0 < Nat.gcd a.toNat b.toNat := by
    rcases h with h | h
    · exact Nat.gcd_pos_of_pos_left _ (by omega)
    · exact Nat.gcd_pos_of_pos_right _ (by omega)
  omega
theorem gI_le_left {a : Int} (b : Int) (h : 0 < a) : gI a b ≤ a := by
  unfold gI
  have := Nat.gcd_le_left b.toNat (show 0 < a.toNat by omega)
  omega
theorem gI_le_right (a : Int) {b : Int} (h : 0 < b) : gI a b ≤ b := by rw [gI_comm]; exact gI_le_left a h
theorem gI_dvd_left {a b : Int} (ha : 0 ≤ a) : gI a b ∣ a := by
  obtain ⟨a, rfl⟩ := Int.eq_ofNat_of_zero_le ha
  unfold gI; rw [Int.toNat_natCast]; exact Int.natCast_dvd_natCast.2 (Nat.gcd_dvd_left _ _)
theorem gI_dvd_right {a b : Int} (hb : 0 ≤ b) : gI a b ∣ b := by rw [gI_comm]; exact gI_dvd_left hb
theorem dvd_gI {a b d : Int} (ha : 0 ≤ a) (hb : 0 ≤ b) (h1 : d ∣ a) (h2 : d ∣ b) : d ∣ gI a b := by
  obtain ⟨a, rfl⟩ := Int.eq_ofNat_of_zero_le ha
  obtain ⟨b, rfl⟩ := Int.eq_ofNat_of_zero_le hb
  unfold gI
  rw [Int.toNat_natCast, Int.toNat_natCast]
  have h1' := Int.natAbs_dvd_natAbs.2 h1
  have h2' := Int.natAbs_dvd_natAbs.2 h2
  exact Int.natAbs_dvd.1 (Int.natCast_dvd_natCast.2 (Nat.dvd_gcd h1' h2'))
/-- the greatest common divisor of some numbers -/
def gL (l : List Int) : Int := l.foldl gI 0
theorem gL_snoc (l : List Int) (x : Int) : gL (l ++ [x]) = gI (gL l) x := by simp [gL]
theorem gL_nonneg (l : List Int) : 0 ≤ gL l := by
  have : ∀ (l : List Int) (a : Int), 0 ≤ a → 0 ≤ l.foldl gI a := fun l => by
    induction l with
    | nil => exact fun _ h => h
    | cons x l ih => exact fun a _ => ih _ (gI_nonneg _ _)
  exact this l 0 (by omega)
theorem take_snoc_int (l : List Int) (k : Nat) (h : k < l.length) : l.take (k + 1) = l.take k ++ [l[k]] := List.take_succ_eq_append_getElem h
theorem gL_take (l : List Int) (k : Nat) (h : k < l.length) : gL (l.take (k + 1)) = gI (gL (l.take k)) l[k] := by rw [take_snoc_int l k h, gL_snoc]

/-- the sum of a list -/
def sumL (l : List Int) : Int := l.sum
theorem sumL_nil : sumL [] = 0 := rfl
theorem sumL_cons (x : Int) (l : List Int) : sumL (x :: l) = x + sumL l := by simp [sumL]
theorem sumL_append (a b : List Int) : sumL (a ++ b) = sumL a + sumL b := by simp [sumL]
theorem sumL_take (l : List Int) (k : Nat) (h : k < l.length) : sumL (l.take (k + 1)) = sumL (l.take k) + l[k] := by
  rw [take_snoc_int l k h, sumL_append]; simp [sumL]
theorem sumL_nonneg : ∀ {l : List Int}, (∀ x ∈ l, 0 ≤ x) → 0 ≤ sumL l
  | [], _ => by simp [sumL]
  | x :: l, h => by
    have h1 := h x (by simp)
    have h2 := sumL_nonneg (l := l) fun y hy => h y (by simp [hy])
    rw [sumL_cons]; omega
theorem sumL_split (l : List Int) (k : Nat) : sumL l = sumL (l.take k) + sumL (l.drop k) := by rw [← sumL_append, List.take_append_drop]
theorem sumL_take_le {l : List Int} (h : ∀ x ∈ l, 0 ≤ x) (k : Nat) : 0 ≤ sumL (l.take k) ∧ sumL (l.take k) ≤ sumL l := by
  have h1 := sumL_nonneg (l := l.take k) fun x hx => h x (List.mem_of_mem_take hx)
  have h2 := sumL_nonneg (l := l.drop k) fun x hx => h x (List.mem_of_mem_drop hx)
  have := sumL_split l k
  omega
theorem le_sumL {l : List Int} (h : ∀ x ∈ l, 0 ≤ x) {k : Nat} (hk : k < l.length) : l[k] ≤ sumL l := by
  have h1 := sumL_take l k hk
  have h2 := sumL_take_le h k
  have h3 := sumL_take_le h (k + 1)
  omega
/-- the weights are valid -/
def okW (w : List Int) : Bool := w.all (fun x => decide (0 ≤ x)) && decide (1 ≤ sumL w) && decide (sumL w ≤ 1000000000000000)
/-- the error of a list of weights -/
def errW (w : List Int) : Int := if 4096 < w.length then 5 else if okW w then 0 else 2
structure OkW (w : List Int) : Prop where
  len : w.length ≤ 4096
  nn : ∀ x ∈ w, 0 ≤ x
  pos : 1 ≤ sumL w
  le : sumL w ≤ 1000000000000000
theorem okW_iff {w : List Int} : okW w = true ↔ (∀ x ∈ w, 0 ≤ x) ∧ 1 ≤ sumL w ∧ sumL w ≤ 1000000000000000 := by
  simp only [okW, Bool.and_eq_true, List.all_eq_true, decide_eq_true_eq, and_assoc]
theorem errW_zero {w : List Int} : errW w = 0 ↔ OkW w := by
  unfold errW
  constructor
  · intro h
    by_cases h1 : 4096 < w.length
    · rw [if_pos h1] at h; omega
    · rw [if_neg h1] at h
      by_cases h2 : okW w = true
      · obtain ⟨a, b, c⟩ := okW_iff.1 h2; exact ⟨by omega, a, b, c⟩
      · rw [if_neg h2] at h; omega
  · rintro ⟨h1, h2, h3, h4⟩
    rw [if_neg (by omega), if_pos (okW_iff.2 ⟨h2, h3, h4⟩)]
theorem errW_cases (w : List Int) : errW w = 0 ∨ errW w = 2 ∨ errW w = 5 := by
  unfold errW; split
  · simp
  · split <;> simp
theorem OkW.at_ {w : List Int} (h : OkW w) {k : Nat} (hk : k < w.length) : 0 ≤ w[k] ∧ w[k] ≤ 1000000000000000 :=
  ⟨h.nn _ (List.getElem_mem hk), Int.le_trans (le_sumL h.nn hk) h.le⟩
theorem OkW.pos_len {w : List Int} (h : OkW w) : 0 < w.length := by
  rcases Nat.eq_zero_or_pos w.length with h1 | h1
  · have : w = [] := List.eq_nil_of_length_eq_zero h1
    subst this
    have := h.pos; simp [sumL] at this
  · exact h1
/-- the greatest common divisor of nonnegative numbers with a positive one -/
theorem gL_dvd : ∀ (l : List Int), (∀ x ∈ l, 0 ≤ x) → ∀ x ∈ l, gL l ∣ x := by
  have key : ∀ (l : List Int) (a : Int), 0 ≤ a → (∀ x ∈ l, 0 ≤ x) → l.foldl gI a ∣ a ∧ ∀ x ∈ l, l.foldl gI a ∣ x := fun l => by
    induction l with
    | nil => exact fun a _ _ => ⟨Int.dvd_refl _, fun x hx => by cases hx⟩
    | cons y l ih =>
      intro a ha h
      have hy := h y (by simp)
      obtain ⟨h1, h2⟩ := ih (gI a y) (gI_nonneg _ _) fun x hx => h x (by simp [hx])
      refine ⟨Int.dvd_trans h1 (gI_dvd_left ha), fun x hx => ?_⟩
      rcases List.mem_cons.1 hx with rfl | hx
      · exact Int.dvd_trans h1 (gI_dvd_right hy)
      · exact h2 x hx
  exact fun l h => (key l 0 (by omega) h).2
theorem dvd_gL {d : Int} : ∀ (l : List Int), (∀ x ∈ l, 0 ≤ x) → (∀ x ∈ l, d ∣ x) → d ∣ gL l := by
  have key : ∀ (l : List Int) (a : Int), 0 ≤ a → d ∣ a → (∀ x ∈ l, 0 ≤ x) → (∀ x ∈ l, d ∣ x) → d ∣ l.foldl gI a := fun l => by
    induction l with
    | nil => exact fun a _ h _ _ => h
    | cons y l ih =>
      intro a ha hd h h2
      exact ih (gI a y) (gI_nonneg _ _) (dvd_gI ha (h y (by simp)) hd (h2 y (by simp))) (fun x hx => h x (by simp [hx])) (fun x hx => h2 x (by simp [hx]))
  exact fun l h h2 => key l 0 (by omega) (Int.dvd_zero _) h h2
theorem gL_pos {w : List Int} (hn : ∀ x ∈ w, 0 ≤ x) (hp : 1 ≤ sumL w) : 0 < gL w := by
  have h0 := gL_nonneg w
  rcases Int.lt_or_eq_of_le h0 with h | h
  · exact h
  · exfalso
    have hz : ∀ x ∈ w, x = 0 := fun x hx => by
      have := gL_dvd w hn x hx
      rw [← h] at this
      exact Int.zero_dvd.1 this
    have : ∀ l : List Int, (∀ x ∈ l, x = 0) → sumL l = 0 := fun l => by
      induction l with
      | nil => intro _; rfl
      | cons y l ih => intro h; rw [sumL_cons, h y (by simp), ih fun x hx => h x (by simp [hx])]; rfl
    rw [this w hz] at hp; omega
theorem OkW.gpos {w : List Int} (h : OkW w) : 0 < gL w := gL_pos h.nn h.pos
theorem gL_le {w : List Int} (h : OkW w) : gL w ≤ 1000000000000000 := by
  have h1 := h.gpos
  obtain ⟨x, hx, hx2⟩ : ∃ x ∈ w, 0 < x := by
    apply Classical.byContradiction
    intro hno
    have hz : ∀ x ∈ w, x ≤ 0 := fun x hx => Int.not_lt.1 fun hlt => hno ⟨x, hx, hlt⟩
    have : ∀ l : List Int, (∀ x ∈ l, x ≤ 0) → sumL l ≤ 0 := fun l => by
      induction l with
      | nil => intro _; simp [sumL]
      | cons y l ih => intro h; rw [sumL_cons]; have := h y (by simp); have := ih fun x hx => h x (by simp [hx]); omega
    have := this w hz; have := h.pos; omega
  have h2 := Int.le_of_dvd hx2 (gL_dvd w h.nn x hx)
  obtain ⟨k, hk, rfl⟩ := List.mem_iff_getElem.1 hx
  have := (h.at_ hk).2
  omega
/-- weights in lowest terms -/
def lowL (w : List Int) : List Int := w.map fun x => x / gL w
theorem lowL_len (w : List Int) : (lowL w).length = w.length := by simp [lowL]
/-- a fraction in lowest terms -/
def ratN (n d : Int) : Int := n / gI n d
def ratD (n d : Int) : Int := d / gI n d
/-- outcomes below n, in strictly ascending order, from a number on -/
def amongF (n : Int) : Int → List Int → Bool
  | _, [] => true
  | next, k :: l => decide (next ≤ k) && decide (k < n) && amongF n (k + 1) l
def amongB (l : List Int) (n : Int) : Bool := amongF n 0 l
end Go.Proofs.Ytiikkcifdhcejaa
namespace Go.Proofs.Ytiikkcifdhcejaa
open Go.RowKit

def intCell (x : Int) : List Value := [.int .i64 x]
theorem infoInt : (Try.prog.info? 3).map (fun i => (i.zero, i.size, i.bytes)) = some (some (.int .i64 0), 1, 8) := by kernel_rfl
theorem uInts : Try.prog.underlying 30 = some (.slice 3) := by kernel_rfl
theorem gen_w {F : Act → World → Prop} {a : Act} {W : World} (P : World → Prop) (h : P W) (k : ∀ W', P W' → F a W') : F a W := k W h
theorem sl_one {α : Type} {f : α → List Value} {size : Nat} {W : World} {b t : Nat} {l : List α} {cs : Array Value} (h : Blk W b cs t) (hl : (flat f l).length = l.length * size) (hcs : (flat f l).toArray = cs) : Sl f size W W.heap.size (some ⟨b, 0, none⟩) l := by
  refine ⟨hl, fun _ => ⟨b, 0, rfl, h.lt, fun j u hu => ?_⟩⟩
  rw [Nat.zero_add, h.cell j, ← hcs]; simpa using hu
theorem sl_nil {α : Type} {f : α → List Value} {size : Nat} {W : World} {B : Nat} : Sl f size W B none [] := ⟨by simp [flat], fun h => by simp at h⟩
theorem bl3 {w W1 W2 : World} {o : Obj} (h1 : Below w.heap.size w W1) (h2 : Below (W1.alloc o).heap.size (W1.alloc o) W2) : Below w.heap.size w W2 :=
  h1.trans ((((Below.refl W1.heap.size W1).alloc (Nat.le_refl _) o).trans (h2.mono (by simp))).mono h1.size)
theorem bl2 {w W1 W2 : World} (h1 : Below w.heap.size w W1) (h2 : Below W1.heap.size W1 W2) : Below w.heap.size w W2 := h1.trans (h2.mono h1.size)
theorem bla {w W1 : World} {o : Obj} (h1 : Below w.heap.size w W1) : Below w.heap.size w (W1.alloc o) := h1.alloc h1.size o
/-- a slice of integers, at place k -/
theorem Sl.int_at {w : World} {B : Nat} {A : Option Addr} {l : List Int} (h : Sl intCell 1 w B A l) {k : Nat} (hk : k < l.length) : ∃ b o, A = some ⟨b, o, none⟩ ∧ b < B ∧ w.cell? ⟨b, o + k, none⟩ = some (.int .i64 l[k]) := by
  obtain ⟨b, o, e, hb, hc⟩ := h.at_ (fun _ => rfl) hk
  exact ⟨b, o, e, hb, by have := hc 0 _ rfl; simpa using this⟩
theorem Sl.len_pos {α : Type} {f : α → List Value} {size : Nat} {w : World} {B : Nat} {l : List α} (h : Sl f size w B none l) : l = [] := by
  rcases Nat.eq_zero_or_pos l.length with h1 | h1
  · exact List.eq_nil_of_length_eq_zero h1
  · obtain ⟨b, o, e, _⟩ := h.2 h1; cases e
theorem flat_int (l : List Int) : flat intCell l = l.map (Value.int .i64) := flat_one _ l
/-- a slice of integers and an error are returned -/
def RetSlE (l : List Int) (er : Int) (w : World) (e : Ending) (w' : World) : Prop :=
  ∃ A c, e = .returned (.tuple #[.slice A l.length c, .int .i64 er]) ∧ Sl intCell 1 w' w'.heap.size A l ∧ (A = none → c = 0) ∧ Below w.heap.size w w'
theorem retSlE_nil {er : Int} {w w' : World} (h : Below w.heap.size w w') : RetSlE [] er w (.returned (.tuple #[.slice none 0 0, .int .i64 er])) w' := ⟨none, 0, rfl, sl_nil, fun _ => rfl, h⟩
theorem ret_tup {k : IntKind} {a b c d : Int} (h : a = b) (h' : c = d) : Ending.returned (.tuple #[.int k a, .int k c]) = .returned (.tuple #[.int k b, .int k d]) := by rw [h, h']
/-- block b holds just these integers -/
abbrev Arr (W : World) (b : Nat) (l : List Int) : Prop := Blk W b (l.map (Value.int .i64)).toArray 3
section
variable {W : World} {b : Nat} {l : List Int}
theorem Arr.cell_ (h : Arr W b l) {j : Nat} {v : Int} (hv : l[j]? = some v) : W.cell? ⟨b, j, none⟩ = some (.int .i64 v) := by
  rw [Blk.cell h]; simp [hv]
theorem Arr.at_ (h : Arr W b l) {j : Nat} (hj : j < l.length) : W.cell? ⟨b, j, none⟩ = some (.int .i64 l[j]) := h.cell_ (List.getElem?_eq_getElem hj)
theorem Arr.put (h : Arr W b l) (j : Nat) (x : Int) : Arr (W.setCell ⟨b, j, none⟩ (.int .i64 x)) b (l.set j x) := by
  have := Blk.set h j (.int .i64 x)
  rw [List.setIfInBounds_toArray, ← List.map_set] at this
  exact this
theorem Arr.sl (h : Arr W b l) : Sl intCell 1 W W.heap.size (some ⟨b, 0, none⟩) l :=
  sl_one h (by rw [flat_int]; simp) (by rw [flat_int])
theorem Arr.lt_ (h : Arr W b l) : b < W.heap.size := Blk.lt h
end
theorem toList_madeCells_one' (z : Value) (n : Nat) (h : z.cells = #[z]) : (madeCells z.cells (n * 1)).toList = List.replicate n z := by rw [h, Nat.mul_one]; exact toList_madeCells_one z n
theorem wpList_make_arr {P : Program} (w : World) {ops : Array Oper} {rest : List Oper} {o : Oper} {a : Act} {Q : Exit → Act → World → Prop}
    (hg : o.guard = none) (l c : Operand) (hop : o.op = Op.makeSlice 30 l c) (i : TypeInfo) (h1 : P.underlying 30 = some (.slice 3)) (h2 : P.info? 3 = some i) (h3 : i.zero = some (.int .i64 0)) (h4 : i.size = 1) (h5 : i.bytes = 8)
    (kl kc : IntKind) (L C : Int) (n : Nat) (hl : a.eval l = .int kl L) (hc : a.eval c = .int kc C) (hL : L = (n : Int)) (hC : C = (n : Int)) (b3 : n ≤ 1000000000)
    (hK : ∀ w', Arr w' w.heap.size (List.replicate n 0) → Below w.heap.size w w' → Hid (wpList P ops Q rest (a.put o.dst (.slice (some ⟨w.heap.size, 0, none⟩) n n)) w')) :
    wpList P ops Q (o :: rest) a w := by
  refine wpList_make_full w hg l c 30 hop w.heap.size 3 i (.int .i64 0) 1 h1 h2 h3 h4 kl kc L C n hl hc hL hC (by rw [h5]; omega) (by unfold maxLen; omega) (Nat.le_refl _) ?_
  intro w' how hgr
  refine (hK w' ?_ ((Below.refl _ _).grown hgr (Nat.le_refl _) (fun g hg => by cases hg))).out
  rw [toList_madeCells_one' _ _ rfl] at how
  rcases how.2 with ⟨h', _⟩ | ⟨g', cap', cur, h', hb, hg, hnc, hcm, hcs, htake⟩
  · simp at h'
  · simp only [Value.slice.injEq, Option.some.injEq, Addr.mk.injEq, and_true, true_and] at h'
    obtain ⟨rfl, rfl⟩ := h'
    have : cur = (List.replicate n (Value.int .i64 0)).toArray := by
      rw [← htake, List.take_of_length_le (by simp [hcs])]
    show w'.heap[w.heap.size]? = some (.cells ((List.replicate n 0).map (Value.int .i64)).toArray 3 (0, 0))
    rw [List.map_replicate, ← this]; exact hg
/-- a slice of integers is returned -/
def RetL (l : List Int) (w : World) (e : Ending) (w' : World) : Prop :=
  ∃ A c, e = .returned (.slice A l.length c) ∧ Sl intCell 1 w' w'.heap.size A l ∧ (A = none → c = 0) ∧ Below w.heap.size w w'
theorem RetL.of_arr {l : List Int} {w w' : World} {b n : Nat} (h : Arr w' b l) (hn : n = l.length) (hb : Below w.heap.size w w') : RetL l w (.returned (.slice (some ⟨b, 0, none⟩) n n)) w' := ⟨_, _, by rw [hn], h.sl, fun e => (by cases e), hb⟩
theorem RetSlE.of_arr {l : List Int} {w w' : World} {b n : Nat} {er : Int} (h : Arr w' b l) (hn : n = l.length) (hb : Below w.heap.size w w') : RetSlE l er w (.returned (.tuple #[.slice (some ⟨b, 0, none⟩) n n, .int .i64 er])) w' := ⟨_, _, by rw [hn], h.sl, fun e => (by cases e), hb⟩
/-- a slice of lists of integers: addresses, capacities, lists -/
structure LL where
  a : Option Addr
  c : Nat
  l : List Int
def LL.val (x : LL) : Value := .slice x.a x.l.length x.c
def LL.cells (x : LL) : List Value := [x.val]
/-- lists of lists, that read below block B -/
structure Lists (w : World) (B : Nat) (A : Option Addr) (ls : List LL) : Prop where
  top : Sl LL.cells 1 w B A ls
  row : ∀ x ∈ ls, Sl intCell 1 w B x.a x.l
theorem Lists.below {w w' : World} {B : Nat} {A : Option Addr} {ls : List LL} (h : Lists w B A ls) (hb : Below B w w') : Lists w' B A ls := ⟨h.top.below hb, fun x hx => (h.row x hx).below hb⟩
theorem Lists.more {w : World} {B B' : Nat} {A : Option Addr} {ls : List LL} (h : Lists w B A ls) (hB : B ≤ B') : Lists w B' A ls := ⟨h.top.more hB, fun x hx => (h.row x hx).more hB⟩
theorem Lists.at_ {w : World} {B : Nat} {A : Option Addr} {ls : List LL} (h : Lists w B A ls) {k : Nat} (hk : k < ls.length) : ∃ b o, A = some ⟨b, o, none⟩ ∧ b < B ∧ w.cell? ⟨b, o + k, none⟩ = some (.slice ls[k].a ls[k].l.length ls[k].c) ∧ Sl intCell 1 w B ls[k].a ls[k].l := by
  obtain ⟨b, o, e, hb, hc⟩ := h.top.at_ (fun _ => rfl) hk
  exact ⟨b, o, e, hb, by have := hc 0 _ rfl; simpa [LL.val] using this, h.row _ (List.getElem_mem hk)⟩
end Go.Proofs.Ytiikkcifdhcejaa
namespace Go.Proofs.Ytiikkcifdhcejaa
open Go.RowKit

theorem err_long {w : List Int} (h : 4096 < w.length) : errW w = 5 := by unfold errW; rw [if_pos h]
theorem err_bad {w : List Int} (h : w.length ≤ 4096) (h2 : okW w = false) : errW w = 2 := by unfold errW; rw [if_neg (by omega), if_neg (by simp [h2])]
theorem okW_neg {w : List Int} {k : Nat} (hk : k < w.length) (h : w[k] < 0) : okW w = false := by
  rw [← Bool.not_eq_true]; intro hh
  have := (okW_iff.1 hh).1 _ (List.getElem_mem hk); omega
theorem okW_great {w : List Int} {k : Nat} (hk : k < w.length) (h : 1000000000000000 - sumL (w.take k) < w[k]) : okW w = false := by
  rw [← Bool.not_eq_true]; intro hh
  obtain ⟨h1, _, h3⟩ := okW_iff.1 hh
  have e := sumL_take w k hk
  have := (sumL_take_le h1 (k + 1)).2
  omega
theorem okW_zero {w : List Int} (h : sumL w = 0) : okW w = false := by
  rw [← Bool.not_eq_true]; intro hh
  have := (okW_iff.1 hh).2.1; omega
theorem take_all_int (w : List Int) : w.take w.length = w := List.take_length
end Go.Proofs.Ytiikkcifdhcejaa
namespace Go.Proofs.Ytiikkcifdhcejaa

def cmpI (a b : Int) : Int := if a < b then -1 else if b < a then 1 else 0
/-- a chance -/
structure Ch where
  n : Int
  d : Int
def okC (x : Ch) : Bool := decide (1 ≤ x.d) && decide (x.d ≤ 1000000000000000) && decide (0 ≤ x.n) && decide (x.n ≤ x.d) && decide (gI x.n x.d = 1)
structure OkC (x : Ch) : Prop where
  d1 : 1 ≤ x.d
  d2 : x.d ≤ 1000000000000000
  n0 : 0 ≤ x.n
  n1 : x.n ≤ x.d
  g : gI x.n x.d = 1
theorem okC_iff {x : Ch} : okC x = true ↔ OkC x := by
  simp only [okC, Bool.and_eq_true, decide_eq_true_eq]
  exact ⟨fun ⟨⟨⟨⟨a, b⟩, c⟩, d⟩, e⟩ => ⟨a, b, c, d, e⟩, fun ⟨a, b, c, d, e⟩ => ⟨⟨⟨⟨a, b⟩, c⟩, d⟩, e⟩⟩
def badC (x : Ch) : Bool := !okC x
def okP (a b : Ch) : Bool := okC a && okC b
theorem okP_iff {a b : Ch} : okP a b = true ↔ OkC a ∧ OkC b := by rw [okP, Bool.and_eq_true, okC_iff, okC_iff]
theorem any_one (a : Ch) : (!([a].any badC)) = okC a := by simp [badC]
theorem any_two (a b : Ch) : (!([a, b].any badC)) = okP a b := by simp [badC, okP]
/-- Compare, Both, Not, Either -/
def cmpR (a b : Ch) : Int × Int := if okP a b then (cmpI (a.n * b.d) (b.n * a.d), 0) else (0, 2)
def bothR (a b : Ch) : Int × Int × Int :=
  if okP a b then if ratD a.n b.d * ratD b.n a.d ≤ 1000000000000000 then (ratN a.n b.d * ratN b.n a.d, ratD a.n b.d * ratD b.n a.d, 0) else (0, 0, 10) else (0, 0, 2)
def notR (a : Ch) : Int × Int × Int := if okC a then (a.d - a.n, a.d, 0) else (0, 0, 2)
def eG (a b : Ch) : Int := gI a.d b.d
def eP (a b : Ch) : Int := a.d / eG a b
def eQ (a b : Ch) : Int := b.d / eG a b
def eN (a b : Ch) : Int := a.n * eQ a b + b.n * eP a b
def eH (a b : Ch) : Int := gI (eN a b % eG a b) (eG a b)
def eD (a b : Ch) : Int := eP a b * eQ a b * (eG a b / eH a b)
def eitherR (a b : Ch) : Int × Int × Int :=
  if okP a b then if (b.d - b.n) * a.d < a.n * b.d then (0, 0, 3) else if eP a b * eQ a b ≤ 1000000000000000 ∧ eD a b ≤ 1000000000000000 then (eN a b / eH a b, eD a b, 0) else (0, 0, 10) else (0, 0, 2)
/-- what holds of the numbers in a sum of chances -/
structure EF (a b : Ch) (g p q n h : Int) : Prop where
  g1 : 1 ≤ g
  gl : g ≤ 1000000000000000
  p1 : 1 ≤ p
  pl : p ≤ 1000000000000000
  q1 : 1 ≤ q
  ql : q ≤ 1000000000000000
  pa : p * g = a.d
  qb : q * g = b.d
  n0 : 0 ≤ n
  nd : n = a.n * q + b.n * p
  aq : 0 ≤ a.n * q
  bp : 0 ≤ b.n * p
  nl : n ≤ 2000000000000000000000000000000
  h1 : 1 ≤ h
  hg : h ≤ g
  hd : g / h * h = g
  gh1 : 1 ≤ g / h
  ghl : g / h ≤ 1000000000000000
theorem ef_of {a b : Ch} (ha : OkC a) (hb : OkC b) : EF a b (eG a b) (eP a b) (eQ a b) (eN a b) (eH a b) := by
  have a1 := ha.d1; have a2 := ha.d2; have a3 := ha.n0; have a4 := ha.n1
  have b1 := hb.d1; have b2 := hb.d2; have b3 := hb.n0; have b4 := hb.n1
  have g1 : 0 < eG a b := gI_pos (.inl (by omega))
  have gl : eG a b ≤ a.d := gI_le_left _ (by omega)
  have pa : eP a b * eG a b = a.d := Int.ediv_mul_cancel (gI_dvd_left (by omega))
  have qb : eQ a b * eG a b = b.d := Int.ediv_mul_cancel (gI_dvd_right (by omega))
  have p1 : 1 ≤ eP a b := Int.le_ediv_of_mul_le g1 (by omega)
  have q1 : 1 ≤ eQ a b := Int.le_ediv_of_mul_le g1 (by have : eG a b ≤ b.d := gI_le_right _ (by omega); omega)
  have pl : eP a b ≤ a.d := Int.ediv_le_self _ (by omega)
  have ql : eQ a b ≤ b.d := Int.ediv_le_self _ (by omega)
  have aq := Int.mul_nonneg a3 (show 0 ≤ eQ a b by omega)
  have bp := Int.mul_nonneg b3 (show 0 ≤ eP a b by omega)
  have aq2 := Int.mul_le_mul (show a.n ≤ 1000000000000000 by omega) (show eQ a b ≤ 1000000000000000 by omega) (show 0 ≤ eQ a b by omega) (by omega)
  have bp2 := Int.mul_le_mul (show b.n ≤ 1000000000000000 by omega) (show eP a b ≤ 1000000000000000 by omega) (show 0 ≤ eP a b by omega) (by omega)
  have h0 : 0 < eH a b := gI_pos (.inr g1)
  have hg : eH a b ≤ eG a b := gI_le_right _ g1
  have hd : eG a b / eH a b * eH a b = eG a b := Int.ediv_mul_cancel (gI_dvd_right (by omega))
  have gh1 : 1 ≤ eG a b / eH a b := Int.le_ediv_of_mul_le h0 (by omega)
  have ghl : eG a b / eH a b ≤ eG a b := Int.ediv_le_self _ (by omega)
  exact ⟨by omega, by omega, p1, by omega, q1, by omega, pa, qb, by unfold eN; omega, rfl, aq, bp, by unfold eN; omega, by omega, hg, hd, gh1, by omega⟩
/-- no sum is more than 1 -/
theorem EF.le_one {a b : Ch} {g p q n h : Int} (e : EF a b g p q n h) (hle : ¬ (b.d - b.n) * a.d < a.n * b.d) : n ≤ p * q * g := by
  have h1 : n * g ≤ p * q * g * g := by
    have e1 : n * g = a.n * b.d + b.n * a.d := by
      rw [e.nd, ← e.pa, ← e.qb, Int.add_mul]; congr 1 <;> ac_rfl
    have e2 : p * q * g * g = b.d * a.d := by rw [← e.pa, ← e.qb]; ac_rfl
    rw [Int.sub_mul] at hle
    omega
  have g1 := e.g1
  exact Int.le_of_mul_le_mul_right h1 (by omega)
theorem EF.fits {a b : Ch} {g p q n h : Int} (e : EF a b g p q n h) (hle : ¬ (b.d - b.n) * a.d < a.n * b.d) (hs : p * q * (g / h) ≤ 1000000000000000) : n / h ≤ 1000000000000000 ∧ n / 18446744073709551616 < h := by
  have h1 := e.le_one hle
  have hp := e.h1
  have h2 : p * q * g = p * q * (g / h) * h := by rw [Int.mul_assoc (p * q), e.hd]
  rw [h2] at h1
  have h3 := Int.mul_le_mul_of_nonneg_right hs (show 0 ≤ h by omega)
  constructor
  · have := Int.ediv_le_ediv (show 0 < h by omega) (Int.le_trans h1 h3)
    rwa [Int.mul_ediv_cancel _ (by omega)] at this
  · have : n ≤ 1000000000000000 * h := Int.le_trans h1 h3
    omega
end Go.Proofs.Ytiikkcifdhcejaa

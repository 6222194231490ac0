/- A class of worlds of one's own for regions that draw their order; maps with integer keys, entry by entry. -/
import Derived.Test.YtfbnllmmoaialaaB02Iter
import Derived.MapKept
import Derived.Test.YtfbnllmmoaialaaB11AnB
import Derived.Laws.Bits64b
import Derived.Laws.Entries
namespace Go.Proofs.Ytfbnllmmoaialaa
open Go.RowKit

/-- a world of a class -/
structure Cls (K : World → Prop) where
  tgt : World
  h : K tgt
def World.cls {K : World → Prop} (E : Cls K) : World := E.tgt
theorem cls_of {K : World → Prop} {W : World} (h : K W) : ∃ E : Cls K, W = World.cls E := ⟨⟨W, h⟩, rfl⟩
theorem cls_get {K : World → Prop} {W : World} (h : ∃ E : Cls K, W = World.cls E) : K W := by obtain ⟨E, rfl⟩ := h; exact E.h
theorem wp_region_cls {P : Program} {id : Nat} {Q : Exit → Act → World → Prop} {a : Act} {w : World} {l : List Oper} (K : World → Prop) (hK : K w.drew) (hm : P.follows .mixedOrders = true) (hB : Region.lexB .any l.toArray = true)
    (h : wpQuiet P l.toArray (fun w' => ∃ E : Cls K, w' = World.cls E) (fun a' => ∀ w', (∃ E : Cls K, w' = World.cls E) → Q .normal a' w') l a) : (Code.region id l.toArray true).wp P Q a w :=
  wp_region_quiet (C := fun w' => ∃ E : Cls K, w' = World.cls E) hm hB (cls_of hK) (by simpa using h)
theorem wpIn_region_cls {P : Program} {lp n : Nat} {id : Nat} {Q : Exit → Act → World → Prop} {a : Act} {w : World} {l : List Oper} (K : World → Prop) (hK : K w.drew) (hm : P.follows .mixedOrders = true) (hB : Region.lexB .any l.toArray = true) (hnd : noDefer l.toArray = true)
    (h : wpQuiet P l.toArray (fun w' => ∃ E : Cls K, w' = World.cls E) (fun a' => ∀ w', (∃ E : Cls K, w' = World.cls E) → Q .normal a' w') l a) : (Code.region id l.toArray true).wpIn (Fence.wide.inRound lp) n P Q a w := by
  simp only [Region.lexB, Bool.and_eq_true] at hB
  refine wpIn_region_any hm (wpAnyIn_of_quietR (C := fun w' => ∃ E : Cls K, w' = World.cls E) (Q := fun a' => ∀ w', (∃ E : Cls K, w' = World.cls E) → Q .normal a' w') hnd (fun _ w' hw' h => h w' hw') _ _ _ _ (cls_of hK) ?_)
  have := wpAnyQ_lex (P := P) (C := fun w' => ∃ E : Cls K, w' = World.cls E) (md := .any) hB.1 l.toArray.toList 0 (Array.replicate l.toArray.size false) a (by simp) (by simpa using hB.2) (by simpa using h)
  simpa using this
theorem Calls.cls_of {P : Program} {f : FuncId} {args : Array Value} {K : World → Prop} {E : Cls K} {v : Value}
    (h : Calls P f args (World.cls E) fun e w' => e = .returned v ∧ K w') : Calls P f args (World.cls E) fun e w'' => e = .returned v ∧ ∃ E : Cls K, w'' = World.cls E :=
  h.mono fun _ _ ⟨he, hb⟩ => ⟨he, Go.Proofs.Ytfbnllmmoaialaa.cls_of hb⟩
theorem Calls.cls_below {P : Program} {f : FuncId} {args : Array Value} {K : World → Prop} {E : Cls K} {v : Value} (hK : ∀ W W', K W → Below W.heap.size W W' → K W')
    (h : Calls P f args (World.cls E) fun e w' => e = .returned v ∧ Below (World.cls E).heap.size (World.cls E) w') : Calls P f args (World.cls E) fun e w'' => e = .returned v ∧ ∃ E : Cls K, w'' = World.cls E :=
  h.mono fun _ _ ⟨he, hb⟩ => ⟨he, Go.Proofs.Ytfbnllmmoaialaa.cls_of (hK _ _ E.h hb)⟩

/-! maps whose keys are integers, entry by entry -/
theorem upd_int {P : Program} {w : World} {t kt e : TypeId} {b : Nat} {es : Array MapEntry} {clock : Nat} {q : IntKind} {n : Int} (v : Value) (ht : P.underlying t = some (.map kt e)) (hk : P.underlying kt = some (.int q))
    (hb : w.heap[b]? = some (.map es clock)) (hf : Instr.findNow (.int q) (.int q n) es.toList 0 = some none) :
    (Instr.mapUpdate t (.map (some b)) (.int q n) v).run P w = .ok () (w.putObj b (.map (es.push { key := .int q n, val := v, born := clock }) (clock + 1))) := by
  have h1 := MapKept.run_checkKey (w := w) (P := P) (kt := kt) (k := .int q n) hk (by simp [MapKept.IsKey]) false 9999
  simp [Instr.mapUpdate, run_underlying ht, MapKept.run_getObj_map hb, h1, MapKept.run_findKey hk hf, MapKept.run_setObj_map _ hb, Result.andThen, World.putObj]
theorem look_int {P : Program} {w : World} {t kt e : TypeId} {b : Nat} {es : Array MapEntry} {clock : Nat} {q : IntKind} {n : Int} {i : Nat} {v : Value} (ht : P.underlying t = some (.map kt e)) (hk : P.underlying kt = some (.int q))
    (hb : w.heap[b]? = some (.map es clock)) (hf : Instr.findNow (.int q) (.int q n) es.toList 0 = some (some (i, v))) :
    (Instr.lookup t (.map (some b)) (.int q n) false).run P w = .ok v w := by
  have h1 := MapKept.run_checkKey (w := w) (P := P) (kt := kt) (k := .int q n) hk (by simp [MapKept.IsKey]) es.isEmpty 9999
  simp [Instr.lookup, run_underlying ht, MapKept.run_getObj_map hb, h1, MapKept.run_findKey hk hf, Result.andThen]
theorem wpList_insert_int {P : Program} {ops : Array Oper} {rest : List Oper} {o : Oper} {a : Act} {Q : Exit → Act → World → Prop} {w : World}
    (hg : o.guard = none) (m x v : Operand) (t : TypeId) (hop : o.op = Op.insert t m x v)
    (k e : TypeId) (q : IntKind) (ht : P.underlying t = some (.map k e)) (hk : P.underlying k = some (.int q)) (b : Nat) (es : Array MapEntry) (clock : Nat)
    (hm : a.eval m = .map (some b)) (hb : w.heap[b]? = some (.map es clock)) (n : Int) (val : Value) (hx : a.eval x = .int q n) (hv : a.eval v = val) (hf : Instr.findNow (.int q) (.int q n) es.toList 0 = some none)
    (hK : ∀ w', w'.heap[b]? = some (.map (es.push { key := .int q n, val := val, born := clock }) (clock + 1)) → w.grownBy w' (some b) → w'.heap.size = w.heap.size → wpList P ops Q rest (a.put o.dst undef) w') :
    wpList P ops Q (o :: rest) a w := by
  refine wpList_plain hg fun K' hK' => ?_
  have hrun := upd_int val ht hk hb hf
  unfold Oper.wp
  simp [execOp, hop, hm, hx, hv, hrun, Result.andThen]
  exact hK' _ _ (hK _ (World.putObj_heap_same (Array.getElem?_eq_some_iff.1 hb).1) (grownBy_putObj' w b _) (by simp [World.putObj]))
theorem grown_same {a b c : World} {r : Option Nat} (h : a.grownBy b r) (k : b.grownBy c r) : a.grownBy c r :=
  ⟨k.os.trans h.os, k.tape.trans h.tape, k.output.trans h.output, Nat.le_trans h.size k.size, fun i hi hne => (k.block i (Nat.lt_of_lt_of_le hi h.size) hne).trans (h.block i hi hne)⟩
theorem grown_below {a b c : World} {r : Option Nat} (h : a.grownBy b r) (k : Below b.heap.size b c) : a.grownBy c r :=
  grown_same h ⟨k.os, k.tape, k.output, k.size, fun i hi _ => k.block i hi⟩
theorem below_of_grown {a b : World} {r B : Nat} (hB : B ≤ a.heap.size) (h : a.grownBy b (some r)) (hr : B ≤ r) : Below B a b := ⟨h.os, h.tape, h.output, h.size, fun i hi => h.block i (by omega) (by intro e; have := Option.some.inj e; omega)⟩
theorem Blk.grown {W W' : World} {b : Nat} {cs : Array Value} {t : TypeId} {r : Option Nat} (h : Blk W b cs t) (hg : W.grownBy W' r) (hne : some b ≠ r) : Blk W' b cs t := (hg.block b h.lt hne).trans h
/-! a loop variable in a box of its own -/
abbrev roundActB (T : Array Value) (ps : Array Tmp) (sl : List (Tmp × Nat)) (q : Tmp) (b : Nat) (xs : Array Value) : Act :=
  { tmps := (sl.foldl (fun t (p, i) => t.setIfInBounds p (xs.getD i undef)) ((ps.zip xs).foldl (fun t (p, v) => t.setIfInBounds p v) T)).setIfInBounds q (.pointer (some ⟨b, 0, none⟩)), defers := [] }
theorem wp_rangeB {g : Operand} {ps : Array Tmp} {assign body : Code} {Q : Exit → Act → World → Prop} {a : Act} {w : World} {gf : Nat} {lb : Array Value}
    (hg : a.eval g = .func (.func gf) #[] lb) (eg : Ent gf) {D : World → Prop} {Enc : Nat → World → Array Value → Prop} {N : Nat} (hit : Iter gf lb D Enc N)
    (sl : List (Tmp × Nat)) (q : Tmp) (j : Nat) (ty : TypeId) (I : Nat → World → Prop) (Ix : Code → World → Prop)
    (hI : ∀ k, Stab w.heap.size (I k)) (hIx : ∀ c, Stab w.heap.size (Ix c)) (hE : ∀ k xs, Stab w.heap.size (fun W => Enc k W xs)) (hD : ∀ k W, I k W → D W) (h0 : I 0 w)
    (hps : ∀ k W xs, Enc k W xs → xs.size = ps.size)
    (hassign : ∀ l k xs W (K : Act → World → Prop), Enc k W xs → K (roundActB a.tmps ps sl q W.heap.size xs) (W.alloc (.cells #[xs.getD j undef] ty)) → assign.wpIn (Fence.wide.inRound l) 1 Try.prog (Exit.then K (fun _ _ _ => False)) { tmps := (ps.zip xs).foldl (fun t (p, v) => t.setIfInBounds p v) a.tmps, defers := [] } W)
    (hbody : ∀ l k xs b W, k < N → I k W → Enc k W xs → Blk W b #[xs.getD j undef] ty → w.heap.size < l → l < W.heap.size → body.wpIn (Fence.wide.inRound l) 1 Try.prog (roundOut w.heap.size (I (k + 1)) Ix W) (roundActB a.tmps ps sl q b xs) W)
    (hdone : ∀ D W, I N W → w.heap.size ≤ D → W.heap[D]? = some (.deferred (some [])) → Q .normal { a with defers := { target := .collected D, args := #[] } :: a.defers } W)
    (hstop : ∀ D c W, Ix c W → w.heap.size ≤ D → W.heap[D]? = some (.deferred (some [])) → c.wp Try.prog Q { a with defers := { target := .collected D, args := #[] } :: a.defers } W) :
    (Code.rangeFunc g ps assign body).wp Try.prog Q a w := by
  refine wp_range hg eg hit I Ix (fun k a₁ W => I k W ∧ ∃ xs b, Enc k W xs ∧ Blk W b #[xs.getD j undef] ty ∧ a₁ = roundActB a.tmps ps sl q b xs) hI hIx
    (fun k a₁ => (hI k).and (Stab.ex fun xs => Stab.ex fun b => (hE k xs).and ((Stab.blk _ _ _ _).and (Stab.pure _)))) hD h0
    (fun k W xs _ _ h => hps k W xs h) (fun l k xs W hk hi he h1 h2 => ?_) (fun l k a₁ W hk hax h1 h2 => ?_) hdone hstop
  · refine wpIn_mono (hassign l k xs W (fun a₁ W' => a₁ = roundActB a.tmps ps sl q W.heap.size xs ∧ W' = W.alloc (.cells #[xs.getD j undef] ty)) he ⟨rfl, rfl⟩) ?_
    intro e a₁ W' hp
    have hb : Below W.heap.size W (W.alloc (.cells #[xs.getD j undef] ty)) := (Below.refl _ _).alloc (Nat.le_refl _) _
    cases e with
    | normal => obtain ⟨rfl, rfl⟩ := hp; exact ⟨keepsFrom_below hb, (hI k).below hi hb, xs, W.heap.size, (hE k xs).below he hb, Blk.at_ rfl, rfl⟩
    | ret => exact hp.elim
    | exit id => exact hp.elim
    | goto t => exact hp.elim
    | panic ch => exact hp.elim
    | outgrown => exact hp.elim
  · obtain ⟨hi, xs, b, he, hbk, rfl⟩ := hax
    exact hbody l k xs b W hk hi he hbk h1 h2
theorem wp_rangeBC {g : Operand} {ps : Array Tmp} {assign body : Code} {Q : Exit → Act → World → Prop} {a : Act} {w : World} {gf : Nat} {lb : Array Value}
    (hg : a.eval g = .func (.func gf) #[] lb) (eg : Ent gf) {D : World → Prop} {Enc : Nat → World → Array Value → Prop} {N : Nat} (hit : Iter gf lb D Enc N)
    (sl : List (Tmp × Nat)) (q : Tmp) (bc : Array Value → Array Value) (ty : TypeId) (I : Nat → World → Prop) (Ix : Code → World → Prop)
    (hI : ∀ k, Stab w.heap.size (I k)) (hIx : ∀ c, Stab w.heap.size (Ix c)) (hE : ∀ k xs, Stab w.heap.size (fun W => Enc k W xs)) (hD : ∀ k W, I k W → D W) (h0 : I 0 w)
    (hps : ∀ k W xs, Enc k W xs → xs.size = ps.size)
    (hassign : ∀ l k xs W (K : Act → World → Prop), Enc k W xs → (∀ W', Below W.heap.size W W' → Blk W' W.heap.size (bc xs) ty → K (roundActB a.tmps ps sl q W.heap.size xs) W') → assign.wpIn (Fence.wide.inRound l) 1 Try.prog (Exit.then K (fun _ _ _ => False)) { tmps := (ps.zip xs).foldl (fun t (p, v) => t.setIfInBounds p v) a.tmps, defers := [] } W)
    (hbody : ∀ l k xs b W, k < N → I k W → Enc k W xs → Blk W b (bc xs) ty → w.heap.size < l → l < W.heap.size → body.wpIn (Fence.wide.inRound l) 1 Try.prog (roundOut w.heap.size (I (k + 1)) Ix W) (roundActB a.tmps ps sl q b xs) W)
    (hdone : ∀ D W, I N W → w.heap.size ≤ D → W.heap[D]? = some (.deferred (some [])) → Q .normal { a with defers := { target := .collected D, args := #[] } :: a.defers } W)
    (hstop : ∀ D c W, Ix c W → w.heap.size ≤ D → W.heap[D]? = some (.deferred (some [])) → c.wp Try.prog Q { a with defers := { target := .collected D, args := #[] } :: a.defers } W) :
    (Code.rangeFunc g ps assign body).wp Try.prog Q a w := by
  refine wp_range hg eg hit I Ix (fun k a₁ W => I k W ∧ ∃ xs b, Enc k W xs ∧ Blk W b (bc xs) ty ∧ a₁ = roundActB a.tmps ps sl q b xs) hI hIx
    (fun k a₁ => (hI k).and (Stab.ex fun xs => Stab.ex fun b => (hE k xs).and ((Stab.blk _ _ _ _).and (Stab.pure _)))) hD h0
    (fun k W xs _ _ h => hps k W xs h) (fun l k xs W hk hi he h1 h2 => ?_) (fun l k a₁ W hk hax h1 h2 => ?_) hdone hstop
  · refine wpIn_mono (hassign l k xs W (fun a₁ W' => a₁ = roundActB a.tmps ps sl q W.heap.size xs ∧ Below W.heap.size W W' ∧ Blk W' W.heap.size (bc xs) ty) he (fun W' h1 h2 => ⟨rfl, h1, h2⟩)) ?_
    intro e a₁ W' hp
    cases e with
    | normal => obtain ⟨rfl, hb, hbk⟩ := hp; exact ⟨keepsFrom_below hb, (hI k).below hi hb, xs, W.heap.size, (hE k xs).below he hb, hbk, rfl⟩
    | ret => exact hp.elim
    | exit id => exact hp.elim
    | goto t => exact hp.elim
    | panic ch => exact hp.elim
    | outgrown => exact hp.elim
  · obtain ⟨hi, xs, b, he, hbk, rfl⟩ := hax
    exact hbody l k xs b W hk hi he hbk h1 h2
theorem round2B (T : Array Value) (p q r s : Tmp) (b : Nat) (x y : Value) : roundActB T #[p, q] [(r, 0)] s b #[x, y] = { tmps := (((T.setIfInBounds p x).setIfInBounds q y).setIfInBounds r x).setIfInBounds s (.pointer (some ⟨b, 0, none⟩)), defers := [] } := by simp [roundActB]
theorem keepsFrom_grown {B z : Nat} {W W' : World} {cs : Array Value} {t : TypeId} (h : W.grownBy W' (some z)) (hz : Blk W z cs t) : KeepsFrom B W W' :=
  ⟨h.size, fun k o _ hk ho => (h.block k (Array.getElem?_eq_some_iff.1 hk).1 (by intro e; have e := Option.some.inj e; subst e; unfold Blk at hz; rw [hz] at hk; cases hk; cases ho)).trans hk⟩
end Go.Proofs.Ytfbnllmmoaialaa
namespace Go.Proofs.Ytfbnllmmoaialaa
open Go.RowKit

theorem u64bit (a i : Nat) (ha : a < 18446744073709551616) : bits BinOp.and IntKind.u64 ((a : Int) / 2 ^ i) 1 = ((a / 2 ^ i % 2 : Nat) : Int) := by
  have h1 : (a : Int) / 2 ^ i = ((a / 2 ^ i : Nat) : Int) := by simp
  have h2 : a / 2 ^ i < 18446744073709551616 := Nat.lt_of_le_of_lt (Nat.div_le_self _ _) ha
  rw [h1]
  have := bits_and_u64_nat (a / 2 ^ i) 1 h2 (by omega)
  rw [Nat.and_one_is_mod] at this
  exact this
theorem run_store_func (P : Program) (w : World) (a : Addr) (m : Mode) (f : Fn) (b c : Array Value) : (store a (.func f b c) m).run P w = stored P w a (.func f b c) m := run_store P w a _ m rfl
attribute [local go_sem] run_store_func
/-- number n is in a set -/
def bitB (st : Int) (n : Nat) : Bool := st.toNat.testBit n
theorem ent_lkIn : Ent 99 := ent_of (fn := Try.f99) (by kernel_rfl) (by kernel_rfl) (by kernel_rfl)
theorem lkIn_any (kd wh st fr to_ : Int) (n : Nat) (w : World) (hs : 0 ≤ st ∧ st < 18446744073709551616) (hn : n < 64) :
    Calls Try.prog 99 #[.agg #[.int .i64 kd, .int .i64 wh, .int .u64 st, .int .i64 fr, .int .i64 to_], .int .i64 n] w fun e w' => e = .returned (.bool (bitB st n)) ∧ Below w.heap.size w w' := by
  obtain ⟨S, rfl⟩ := Int.eq_ofNat_of_zero_le hs.1
  have q1 := u64bit S n (by omega)
  have HT : Hid (bitB (S : Int) n = (((S / 2 ^ n % 2 : Nat) : Int) == 1)) := (by
    unfold bitB
    rw [Int.toNat_natCast, Nat.testBit_eq_decide_div_mod_eq]
    by_cases h : S / 2 ^ n % 2 = 1
    · rw [h]; rfl
    · have h0 : S / 2 ^ n % 2 = 0 := by omega
      rw [h0]; rfl : bitB (S : Int) n = _)
  go_enter Try.func99, Try.ntmps99
  go_wp2
  go_ret
  exact ⟨ret_bool HT.out.symm, by (repeat (first | exact Below.refl _ _ | assumption | (refine Below.alloc ?_ (by first | omega | (simp; omega) | (simp; done)) _) | (refine Below.setCell ?_ (by first | omega | (simp; omega) | (simp; done)) _) | (refine Below.drew ?_) | (refine belowN ?_ _) | (refine Below.trans ?_ (Below.mono ‹Below _ _ _› (by first | omega | (simp; omega) | (simp; done))))))⟩
theorem alloc_at {W : World} {n : Nat} {o : Obj} (h : n = W.heap.size) : (W.alloc o).heap[n]? = some o := h ▸ World.alloc_heap_new W o
/-- the tests by their kinds -/
def lkMap (f0 : Nat) : Array MapEntry := #[⟨.int .i64 1, .func (.func 100) #[] #[.pointer (some ⟨f0, 0, none⟩)], 0⟩, ⟨.int .i64 2, .func (.func 101) #[] #[.pointer (some ⟨f0, 0, none⟩)], 1⟩, ⟨.int .i64 3, .func (.func 103) #[] #[.pointer (some ⟨f0, 0, none⟩)], 2⟩, ⟨.int .i64 4, .func (.func 104) #[] #[.pointer (some ⟨f0, 0, none⟩)], 3⟩,
  ⟨.int .i64 5, .func (.func 106) #[] #[.pointer (some ⟨f0, 0, none⟩)], 4⟩, ⟨.int .i64 6, .func (.func 107) #[] #[], 5⟩, ⟨.int .i64 7, .func (.func 108) #[] #[], 6⟩]
/-- what stays of a look: the almanac in block A, the test of sets in block f0, the tests by their kinds in M; the look itself lies in block z -/
structure LkS (x : Alm) (z A f0 M : Nat) (V : World) : Prop where
  alm : Blk V A x.cells.toArray 28
  cyc : Sl Cyc.cells 2 V z x.a x.cycles
  inb : Blk V f0 #[.func (.func 99) #[] #[]] 144
  map : V.heap[M]? = some (.map (lkMap f0) 7)
  la : A < z
  lf : f0 < z
  lm : M < z
  lz : z < V.heap.size
abbrev lkv (A : Nat) (day : Int) (sv mv : Value) (M : Nat) : Array Value := #[.pointer (some ⟨A, 0, none⟩), .int .i64 day, sv, mv, .map (some M)]
def sunOk (x : Alm) (day : Int) (z : Nat) (W : World) (v : Value) : Prop := v = .pointer none ∨ ∃ b, v = .pointer (some ⟨b, 0, none⟩) ∧ b ≠ z ∧ Blk W b (solI x.sol day).cells.toArray 75
def moonOk (x : Alm) (day : Int) (z : Nat) (W : World) (v : Value) : Prop := v = .pointer none ∨ ∃ b, v = .pointer (some ⟨b, 0, none⟩) ∧ b ≠ z ∧ Blk W b (moonI x.lun day).cells.toArray 77
/-- what turns of a look, seen from a world V -/
structure LkD (x : Alm) (z A M : Nat) (day : Int) (V W : World) : Prop where
  gr : V.grownBy W (some z)
  at_ : ∃ sv mv, Blk W z (lkv A day sv mv M) 150 ∧ sunOk x day z W sv ∧ moonOk x day z W mv
theorem sunOk.grown {x : Alm} {day : Int} {z : Nat} {W W' : World} {v : Value} (h : sunOk x day z W v) (hg : W.grownBy W' (some z)) : sunOk x day z W' v := by
  rcases h with h | ⟨b, h1, h2, h3⟩
  · exact .inl h
  · exact .inr ⟨b, h1, h2, h3.grown hg (by intro e; exact h2 (Option.some.inj e))⟩
theorem moonOk.grown {x : Alm} {day : Int} {z : Nat} {W W' : World} {v : Value} (h : moonOk x day z W v) (hg : W.grownBy W' (some z)) : moonOk x day z W' v := by
  rcases h with h | ⟨b, h1, h2, h3⟩
  · exact .inl h
  · exact .inr ⟨b, h1, h2, h3.grown hg (by intro e; exact h2 (Option.some.inj e))⟩
theorem grownZ {W W' : World} (z : Nat) (h : Below W.heap.size W W') : W.grownBy W' (some z) := ⟨h.os, h.tape, h.output, h.size, fun k hk _ => h.block k hk⟩
theorem LkD.below {x : Alm} {z A M : Nat} {day : Int} {V W W' : World} (h : LkD x z A M day V W) (hb : Below W.heap.size W W') : LkD x z A M day V W' := by
  obtain ⟨sv, mv, h1, h2, h3⟩ := h.at_
  exact ⟨grown_below h.gr hb, sv, mv, h1.below hb h1.lt, h2.grown (grownZ z hb), h3.grown (grownZ z hb)⟩
theorem LkS.grown {x : Alm} {z A f0 M : Nat} {V W : World} (h : LkS x z A f0 M V) (hg : V.grownBy W (some z)) : LkS x z A f0 M W := by
  have hn : ∀ b, b < z → some b ≠ some z := fun b hb e => by have := Option.some.inj e; omega
  refine ⟨h.alm.grown hg (hn _ h.la), h.cyc.keep fun p hp => World.cell?_of_block (hg.block p.block (by have := h.lz; omega) (hn _ hp)), h.inb.grown hg (hn _ h.lf), (hg.block _ (by have := h.lz; have := h.lm; omega) (hn _ h.lm)).trans h.map, h.la, h.lf, h.lm, Nat.lt_of_lt_of_le h.lz hg.size⟩
theorem LkD.base {x : Alm} {z A M : Nat} {day : Int} {V W W' : World} (h : V.grownBy W (some z)) (k : LkD x z A M day W W') : LkD x z A M day V W' := ⟨grown_same h k.gr, k.at_⟩
theorem LkD.self {x : Alm} {z A M : Nat} {day : Int} {V W : World} (h : LkD x z A M day V W) : LkD x z A M day W W := ⟨grownZ z (Below.refl _ _), h.at_⟩
theorem below_trans_grown {a b c : World} {r B : Nat} (h : Below B a b) (hg : b.grownBy c (some r)) (hr : B ≤ r) (hB : B ≤ a.heap.size := by exact Nat.le_refl _) : Below B a c := h.grown hg (Nat.le_trans hB h.size) (fun k e => by have := Option.some.inj e; omega)
set_option maxRecDepth 100000 in
set_option maxHeartbeats 1000000 in
theorem newLook_any (x : Alm) (w : World) (hc : Sl Cyc.cells 2 w w.heap.size x.a x.cycles) :
    Calls Try.prog 74 #[.agg x.cells.toArray] w fun e w' => e = .returned (.pointer (some ⟨w.heap.size + 3, 0, none⟩)) ∧ LkS x (w.heap.size + 3) w.heap.size (w.heap.size + 1) (w.heap.size + 2) w' ∧ Blk w' (w.heap.size + 3) (lkv w.heap.size 0 (.pointer none) (.pointer none) (w.heap.size + 2)) 150 ∧ Below w.heap.size w w' ∧ w'.heap.size = w.heap.size + 4 := by
  obtain ⟨A, c, l, ⟨e, b, u⟩, ⟨d, p, f, m, y, s, k⟩⟩ := x
  simp only [Alm.cells] at *
  have HC := Lib.hid hc
  clear hc
  have hmm := @run_makeMap Try.prog
  go_enter Try.func74, Try.ntmps74
  go_wp2_with (first | (refine wpList_insert_int rfl _ _ _ 148 rfl 123 _ .i64 Try.underlying148 Try.underlying123 _ _ _ rfl h1 _ _ rfl rfl (by rfl) ?_; intro W2 h2 g2 s2; have hG2 := grown_same hG g2; have hS2 := s2.trans hS1; clear g2 s2 hG hS1 h1; rename World => W1; have h1 := h2; have hG := hG2; have hS1 := hS2; clear h2 hG2 hS2) | (refine wpList_insert_int rfl _ _ _ 148 rfl 123 _ .i64 Try.underlying148 Try.underlying123 _ _ _ rfl (alloc_at (by simp)) _ _ rfl rfl (by rfl) ?_; intro W1 h1 hG hS1))
  go_ret
  have hz : W1.heap.size = w.heap.size + 3 := hS1.trans (by simp)
  have hb : Below w.heap.size w W1 := below_trans_grown (by (repeat (first | exact Below.refl _ _ | assumption | (refine Below.alloc ?_ (by first | omega | (simp; omega) | (simp; done)) _) | (refine Below.setCell ?_ (by first | omega | (simp; omega) | (simp; done)) _) | (refine Below.drew ?_) | (refine belowN ?_ _) | (refine Below.trans ?_ (Below.mono ‹Below _ _ _› (by first | omega | (simp; omega) | (simp; done))))))) hG (by omega)
  have hm : W1.heap[w.heap.size + 2]? = some (.map (lkMap (w.heap.size + 1)) 7) := h1
  have hn : ∀ i, i < 2 → some (w.heap.size + i) ≠ some (w.heap.size + 2) := fun i hi e => by have := Option.some.inj e; omega
  refine ⟨rfl, ⟨((((Blk.at_ rfl).alloc _).alloc _).grown hG (hn 0 (by omega))).alloc _, (HC.out.below (hb.alloc (by omega) _)).more (by omega), ((((Blk.at_ (by simp)).alloc _).grown hG (hn 1 (by omega))).alloc _), (Below.heap_alloc _ _ _ (by omega)).trans hm, by omega, by omega, by omega, by simp; omega⟩, Blk.at_ hz.symm, hb.alloc (by omega) _, by simp [hz]⟩
end Go.Proofs.Ytfbnllmmoaialaa
namespace Go.Proofs.Ytfbnllmmoaialaa
open Go.RowKit

theorem grown_setZ {a b : World} {z i : Nat} (h : a.grownBy b (some z)) (v : Value) : a.grownBy (b.setCell ⟨z, i, none⟩ v) (some z) :=
  ⟨h.os, h.tape, h.output, by simpa [World.setCell] using h.size, fun j hj hne => (Below.heap_setCell b _ v j (by rintro rfl; exact hne rfl)).trans (h.block j hj hne)⟩
theorem grown_setN {a b : World} {r : Option Nat} {n i : Nat} (h : a.grownBy b r) (hn : a.heap.size ≤ n) (v : Value) : a.grownBy (b.setCell ⟨n, i, none⟩ v) r :=
  ⟨h.os, h.tape, h.output, by simpa [World.setCell] using h.size, fun j hj hne => (Below.heap_setCell b _ v j (fun e => absurd hj (by rw [e]; show ¬ n < _; omega))).trans (h.block j hj hne)⟩
theorem lkAt_any (x : Alm) (z A M : Nat) (d0 day : Int) (sv mv : Value) (w : World) (gz : Blk w z (lkv A d0 sv mv M) 150) :
    Calls Try.prog 75 #[.pointer (some ⟨z, 0, none⟩), .int .i64 day] w fun e w' => e = .returned (.pointer (some ⟨z, 0, none⟩)) ∧ LkD x z A M day w w' := by
  (have c0 := gz.cell 0; have c1 := gz.cell 1; have c2 := gz.cell 2; have c3 := gz.cell 3; have c4 := gz.cell 4; simp at c0 c1 c2 c3 c4)
  have f1 := gz.free 1; have f2 := gz.free 2; have f3 := gz.free 3
  have hlt := gz.lt
  have gw := ((gz.set 1 (.int .i64 day)).set 2 (.pointer none)).set 3 (.pointer none)
  have HG := Lib.hid gw
  clear gw gz
  go_enter Try.func75, Try.ntmps75
  go_wp2
  go_ret
  have := HG.out
  exact ⟨rfl, grown_setZ (grown_setZ (grown_setZ (grownZ z (Below.refl _ _)) _) _) _, .pointer none, .pointer none, by simpa using HG.out, .inl rfl, .inl rfl⟩
set_option maxRecDepth 100000 in
set_option maxHeartbeats 2000000 in
theorem bySun_any (x : Alm) (z A f0 M : Nat) (day : Int) (w : World) (hx : almB x = true) (d0 : 0 ≤ day) (d1 : day ≤ 1000000) (hs : LkS x z A f0 M w) (hd : LkD x z A M day w w) :
    Calls Try.prog 102 #[.pointer (some ⟨z, 0, none⟩)] w fun e w' => e = .returned (.agg (solI x.sol day).cells.toArray) ∧ LkD x z A M day w w' := by
  obtain ⟨sv, mv, gz, hsun, hmoon⟩ := hd.at_
  simp only [almB, Bool.and_eq_true] at hx
  obtain ⟨⟨⟨-, -⟩, hso⟩, -⟩ := hx
  have hA := hs.la
  have hlz := hs.lz
  rcases hsun with rfl | ⟨b, rfl, hbz, gb⟩
  · obtain ⟨sol, hsol⟩ : ∃ s, s = x.sol := ⟨_, rfl⟩
    obtain ⟨e, b, u⟩ := sol
    rw [← hsol] at hso
    have HX := Lib.hid (fun W => solar_any e b u day W (solB_iff.1 hso) d0 d1)
    have ga : Blk w A #[.slice x.a x.cycles.length x.c, .int .i64 e, .int .i64 b, .int .i64 u, .int .i64 x.lun.d, .int .i64 x.lun.p, .int .i64 x.lun.f, .int .i64 x.lun.m, .int .i64 x.lun.y, .int .i64 x.lun.s, .int .i64 x.lun.l] 28 := by
      have h := hs.alm
      simp only [Alm.cells, ← hsol] at h
      exact h
    rw [← hsol]
    obtain ⟨D, hD⟩ : ∃ D, D = solI ⟨e, b, u⟩ day := ⟨_, rfl⟩
    rw [← hD] at HX ⊢
    have HDD : Hid (solI x.sol day = D) := (by rw [hD, hsol] : solI x.sol day = D)
    obtain ⟨dy, dm, dd⟩ := D
    have HMo := Lib.hid hmoon
    clear hD hsol hso hs hd hmoon
    go_enter Try.func102, Try.ntmps102
    (have c0 := gz.cell 0; have c1 := gz.cell 1; have c2 := gz.cell 2; have c3 := gz.cell 3; have c4 := gz.cell 4; simp at c0 c1 c2 c3 c4)
    go_upto_region 2 with fail
    obtain ⟨b2, hb2⟩ : ∃ b, b = w.heap.size := ⟨_, rfl⟩
    rw [← hb2]
    refine gen_w (fun W => w.grownBy W (some z) ∧ Blk W z (lkv A day (.pointer none) mv M) 150 ∧ Blk W A #[.slice x.a x.cycles.length x.c, .int .i64 e, .int .i64 b, .int .i64 u, .int .i64 x.lun.d, .int .i64 x.lun.p, .int .i64 x.lun.f, .int .i64 x.lun.m, .int .i64 x.lun.y, .int .i64 x.lun.s, .int .i64 x.lun.l] 28 ∧ Blk W b2 #[.int .i64 0, .int .i64 0, .int .i64 0] 75) ⟨grownZ z ((Below.refl _ _).alloc (Nat.le_refl _) _), gz.alloc _, ga.alloc _, Blk.at_ hb2⟩ ?_
    have hb2w : w.heap.size ≤ b2 := by omega
    clear hb2
    clear gz ga c0 c1 c2 c3 c4
    rintro V ⟨hV, gz, ga, g2⟩
    have hS : ∀ W, Below V.heap.size V W → W.cell? ⟨z, 0, none⟩ = some (.pointer (some ⟨A, 0, none⟩)) ∧ W.cell? ⟨z, 1, none⟩ = some (.int .i64 day) ∧ W.cell? ⟨A, 1, none⟩ = some (.int .i64 e) ∧ W.cell? ⟨A, 2, none⟩ = some (.int .i64 b) ∧ W.cell? ⟨A, 3, none⟩ = some (.int .i64 u) := fun W hW => by
      have gz := gz.below hW gz.lt
      have ga := ga.below hW ga.lt
      have c0 := gz.cell 0; have c1 := gz.cell 1; have a1 := ga.cell 1; have a2 := ga.cell 2; have a3 := ga.cell 3
      simp at c0 c1 a1 a2 a3
      exact ⟨c0, c1, a1, a2, a3⟩
    refine' wp_region_plan 13 [12, 11, 10, 9, 8, 7, 6, 5, 4, 3, 2, 1, 0] [.eff, .eff, .eff, .eff, .eff, .eff, .eff, .eff, .eff, .eff, .eff, .eff, .eff, .last] [Det _, Det _, Det _, Det _, Det _, Det _, Det _, Det _, Det _, Det _, Det _, Det (.agg #[.int .i64 dy, .int .i64 dm, .int .i64 dd]), fun v W => ∃ b9, v = .pointer (some ⟨b9, 0, none⟩) ∧ Blk W b9 #[.int .i64 0, .int .i64 0, .int .i64 0] 75 ∧ V.heap.size ≤ b9, noF] (by rfl) [(12, 3), (11, 20)] [(12, 3), (11, 20), (10, 19), (9, 18), (8, 17), (7, 16), (6, 15), (5, 14), (4, 13), (3, 12), (2, 11), (1, 10), (0, 9)] (by kernel_rfl) (by kernel_rfl) (by kernel_rfl) (by kernel_rfl) (by kernel_rfl) (by kernel_rfl) (by kernel_rfl) (by kernel_rfl) (by kernel_rfl) rfl ?hp ?hend ?hst
    case hp =>
      refine And.intro ⟨[], by kernel_rfl, fun xs W hW hf K hK => opV_free rfl ?_⟩ ?_
      focus (have hs := hS W hW; (try simp only [factsL, pickF, Det, and_true] at hf); (try simp only [putL, Act.put, List.setIfInBounds_toArray, List.set_cons_zero, List.set_cons_succ]); (try simp only [hf]); go_simp; refine hK.out _ _ (Below.refl _ _) ?_; unfold Det; rfl)
      refine And.intro ⟨[(0, 9)], by kernel_rfl, fun xs W hW hf K hK => opV_free rfl ?_⟩ ?_
      focus (have hs := hS W hW; (try simp only [factsL, pickF, Det, and_true] at hf); (try simp only [putL, Act.put, List.setIfInBounds_toArray, List.set_cons_zero, List.set_cons_succ]); (try simp only [hf]); go_simp; refine hK.out _ _ (Below.refl _ _) ?_; unfold Det; rfl)
      refine And.intro ⟨[(1, 10)], by kernel_rfl, fun xs W hW hf K hK => opV_free rfl ?_⟩ ?_
      focus (have hs := hS W hW; (try simp only [factsL, pickF, Det, and_true] at hf); (try simp only [putL, Act.put, List.setIfInBounds_toArray, List.set_cons_zero, List.set_cons_succ]); (try simp only [hf]); go_simp; refine hK.out _ _ (Below.refl _ _) ?_; unfold Det; rfl)
      refine And.intro ⟨[(2, 11)], by kernel_rfl, fun xs W hW hf K hK => opV_free rfl ?_⟩ ?_
      focus (have hs := hS W hW; (try simp only [factsL, pickF, Det, and_true] at hf); (try simp only [putL, Act.put, List.setIfInBounds_toArray, List.set_cons_zero, List.set_cons_succ]); (try simp only [hf]); go_simp; refine hK.out _ _ (Below.refl _ _) ?_; unfold Det; rfl)
      refine And.intro ⟨[(3, 12)], by kernel_rfl, fun xs W hW hf K hK => opV_free rfl ?_⟩ ?_
      focus (have hs := hS W hW; (try simp only [factsL, pickF, Det, and_true] at hf); (try simp only [putL, Act.put, List.setIfInBounds_toArray, List.set_cons_zero, List.set_cons_succ]); (try simp only [hf]); go_simp; refine hK.out _ _ (Below.refl _ _) ?_; unfold Det; rfl)
      refine And.intro ⟨[(4, 13)], by kernel_rfl, fun xs W hW hf K hK => opV_free rfl ?_⟩ ?_
      focus (have hs := hS W hW; (try simp only [factsL, pickF, Det, and_true] at hf); (try simp only [putL, Act.put, List.setIfInBounds_toArray, List.set_cons_zero, List.set_cons_succ]); (try simp only [hf]); go_simp; refine hK.out _ _ (Below.refl _ _) ?_; unfold Det; rfl)
      refine And.intro ⟨[(5, 14)], by kernel_rfl, fun xs W hW hf K hK => opV_free rfl ?_⟩ ?_
      focus (have hs := hS W hW; (try simp only [factsL, pickF, Det, and_true] at hf); (try simp only [putL, Act.put, List.setIfInBounds_toArray, List.set_cons_zero, List.set_cons_succ]); (try simp only [hf]); go_simp; refine hK.out _ _ (Below.refl _ _) ?_; unfold Det; rfl)
      refine And.intro ⟨[], by kernel_rfl, fun xs W hW hf K hK => opV_free rfl ?_⟩ ?_
      focus (have hs := hS W hW; (try simp only [factsL, pickF, Det, and_true] at hf); (try simp only [putL, Act.put, List.setIfInBounds_toArray, List.set_cons_zero, List.set_cons_succ]); (try simp only [hf]); go_simp; refine hK.out _ _ (Below.refl _ _) ?_; unfold Det; rfl)
      refine And.intro ⟨[(7, 16)], by kernel_rfl, fun xs W hW hf K hK => opV_free rfl ?_⟩ ?_
      focus (have hs := hS W hW; (try simp only [factsL, pickF, Det, and_true] at hf); (try simp only [putL, Act.put, List.setIfInBounds_toArray, List.set_cons_zero, List.set_cons_succ]); (try simp only [hf]); go_simp; refine hK.out _ _ (Below.refl _ _) ?_; unfold Det; rfl)
      refine And.intro ⟨[(8, 17)], by kernel_rfl, fun xs W hW hf K hK => opV_free rfl ?_⟩ ?_
      focus (have hs := hS W hW; (try simp only [factsL, pickF, Det, and_true] at hf); (try simp only [putL, Act.put, List.setIfInBounds_toArray, List.set_cons_zero, List.set_cons_succ]); (try simp only [hf]); go_simp; refine hK.out _ _ (Below.refl _ _) ?_; unfold Det; rfl)
      refine And.intro ⟨[(9, 18)], by kernel_rfl, fun xs W hW hf K hK => opV_free rfl ?_⟩ ?_
      focus (have hs := hS W hW; (try simp only [factsL, pickF, Det, and_true] at hf); (try simp only [putL, Act.put, List.setIfInBounds_toArray, List.set_cons_zero, List.set_cons_succ]); (try simp only [hf]); go_simp; refine hK.out _ _ (Below.refl _ _) ?_; unfold Det; rfl)
      refine And.intro ⟨[(10, 19), (6, 15)], by kernel_rfl, fun xs W hW hf K hK => opV_free rfl ?_⟩ ?_
      focus (simp only [factsL, pickF, Det, and_true] at hf; (try simp only [putL, Act.put, List.setIfInBounds_toArray, List.set_cons_zero, List.set_cons_succ]); (try simp only [hf]); go_simp; refine (HX.out _).mono ?_; rintro _ w9 ⟨rfl, hbw⟩; exact ⟨_, rfl, hK.out _ _ hbw rfl⟩)
      refine And.intro ⟨[], by kernel_rfl, fun xs W hW hf K hK => opV_free rfl ?_⟩ ?_
      focus (go_simp; exact hK.out _ _ ((Below.refl _ _).alloc (Nat.le_refl _) _) ⟨_, rfl, Blk.new _ _ _, hW.size⟩)
      trivial
    case hst => exact ⟨det_stays, det_stays, det_stays, det_stays, det_stays, det_stays, det_stays, det_stays, det_stays, det_stays, det_stays, det_stays, box_stays, noF_stays, trivial⟩
    case hend =>
      intro xs W hW hf
      simp only [factsA, Det, noF, Nat.zero_add, Nat.reduceAdd, and_true] at hf
      obtain ⟨f0, f1, f2, f3, f4, f5, f6, f7, f8, f9, f10, f11, b9, f12, hB, hz9⟩ := hf
      refine opV_free rfl ?_
      (simp only [putL, Act.put, upd, List.setIfInBounds_toArray, List.set_cons_zero, List.set_cons_succ])
      simp only [f0, f1, f2, f3, f4, f5, f6, f7, f8, f9, f10, f11, f12]
      have hB0 := hB.free 0; have hB1 := hB.free 1; have hB2 := hB.free 2
      have hC0 := hB.cell 0; have hC1 := hB.cell 1; have hC2 := hB.cell 2
      simp at hC0 hC1 hC2
      go_simp
      have hz9' : w.heap.size ≤ b9 := Nat.le_trans hV.size hz9
      have hzlt := gz.lt
      have h2lt := g2.lt
      refine gen_w (fun X => w.grownBy X (some z) ∧ Blk X z (lkv A day (.pointer none) mv M) 150 ∧ Blk X b2 #[.int .i64 0, .int .i64 0, .int .i64 0] 75 ∧ Blk X b9 #[.int .i64 dy, .int .i64 dm, .int .i64 dd] 75)
        ⟨grown_setN (grown_setN (grown_setN (grown_below hV hW) hz9' _) hz9' _) hz9' _, (((gz.below hW gz.lt).far _ (by show z ≠ b9; omega) _).far _ (by show z ≠ b9; omega) _).far _ (by show z ≠ b9; omega) _, (((g2.below hW g2.lt).far _ (by show b2 ≠ b9; omega) _).far _ (by show b2 ≠ b9; omega) _).far _ (by show b2 ≠ b9; omega) _, blk3 hB _ _ _⟩ ?_
      have hne : b9 ≠ z := by omega
      have hne2 : b9 ≠ b2 := by omega
      have hz2 : z ≠ b2 := by omega
      clear hS gz g2 ga hB hB0 hB1 hB2 hC0 hC1 hC2 f0 f1 f2 f3 f4 f5 f6 f7 f8 f9 f10 f11 f12 hW hV hz9 hzlt h2lt
      rintro X ⟨hX, gz, g2, g9⟩
      have c2 := gz.cell 2; have y2 := gz.free 2
      simp at c2
      have gz2 := gz.set 2 (.pointer (some ⟨b9, 0, none⟩))
      go_upto_region 4 with fail
      refine gen_w (fun X => w.grownBy X (some z) ∧ Blk X z (lkv A day (.pointer (some ⟨b9, 0, none⟩)) mv M) 150 ∧ Blk X b2 #[.int .i64 0, .int .i64 0, .int .i64 0] 75 ∧ Blk X b9 #[.int .i64 dy, .int .i64 dm, .int .i64 dd] 75)
        ⟨grown_setZ hX _, by simpa using gz2, g2.far _ (by show b2 ≠ z; omega) _, g9.far _ (by show b9 ≠ z; omega) _⟩ ?_
      clear hX gz g2 g9 gz2 c2 y2
      rintro Y ⟨hY, gz, g2, g9⟩
      have c2 := gz.cell 2; have n0 := g9.cell 0; have n1 := g9.cell 1; have n2 := g9.cell 2
      have r0 := g2.cell 0; have r1 := g2.cell 1; have r2 := g2.cell 2; have s0 := g2.free 0; have s1 := g2.free 1; have s2 := g2.free 2
      simp at c2 n0 n1 n2 r0 r1 r2
      have q3 := blk3 g2 (.int .i64 dy) (.int .i64 dm) (.int .i64 dd)
      have k0 := q3.cell 0; have k1 := q3.cell 1; have k2 := q3.cell 2
      simp at k0 k1 k2
      have hgz := (((gz.far ⟨b2, 0, none⟩ hz2 (.int .i64 dy)).far ⟨b2, 1, none⟩ hz2 (.int .i64 dm)).far ⟨b2, 2, none⟩ hz2 (.int .i64 dd))
      have hgr := grown_setN (i := 2) (grown_setN (i := 1) (grown_setN (i := 0) hY hb2w (.int .i64 dy)) hb2w (.int .i64 dm)) hb2w (.int .i64 dd)
      have HMM := HMo.out.grown hgr
      go_wp2_with fail
      refine bodyPost_ret (v := .agg #[.int .i64 dy, .int .i64 dm, .int .i64 dd]) (by simp [results, Try.results102, go_sem, k0, k1, k2]) rfl ?_
      exact ⟨rfl, hgr, _, _, hgz, .inr ⟨b9, rfl, hne, by rw [HDD.out]; exact ((g9.far _ hne2 _).far _ hne2 _).far _ hne2 _⟩, HMM⟩
  · have hsz := gb.lt
    have HMo := Lib.hid hmoon
    have hY : w.grownBy w (some z) := grownZ z (Below.refl _ _)
    obtain ⟨D, hD⟩ : ∃ D, D = solI x.sol day := ⟨_, rfl⟩
    have HDD := Lib.hid hD.symm
    rw [← hD] at gb ⊢
    obtain ⟨dy, dm, dd⟩ := D
    simp only [SDate.cells] at gb ⊢
    clear hs hd hmoon hD hso
    obtain ⟨b9, hb9⟩ : ∃ n, n = b := ⟨_, rfl⟩
    rw [← hb9] at gb gz
    rw [← hb9] at hbz hsz
    clear hb9
    go_enter Try.func102, Try.ntmps102
    (have c0 := gz.cell 0; have c1 := gz.cell 1; have c2 := gz.cell 2; have c3 := gz.cell 3; have c4 := gz.cell 4; simp at c0 c1 c2 c3 c4)
    go_upto_region 4 with fail
    obtain ⟨b2, hb2⟩ : ∃ b, b = w.heap.size := ⟨_, rfl⟩
    rw [← hb2]
    refine gen_w (fun W => w.grownBy W (some z) ∧ Blk W z (lkv A day (.pointer (some ⟨b9, 0, none⟩)) mv M) 150 ∧ Blk W b2 #[.int .i64 0, .int .i64 0, .int .i64 0] 75 ∧ Blk W b9 #[.int .i64 dy, .int .i64 dm, .int .i64 dd] 75) ⟨grownZ z ((Below.refl _ _).alloc (Nat.le_refl _) _), gz.alloc _, Blk.at_ hb2, gb.alloc _⟩ ?_
    have hb2w : w.heap.size ≤ b2 := by omega
    have hne2 : b9 ≠ b2 := by omega
    have hz2 : z ≠ b2 := by omega
    clear hb2 gz gb hY
    clear c0 c1 c2 c3 c4
    rintro Y ⟨hY, gz, g2, g9⟩
    have c2 := gz.cell 2; have n0 := g9.cell 0; have n1 := g9.cell 1; have n2 := g9.cell 2
    have r0 := g2.cell 0; have r1 := g2.cell 1; have r2 := g2.cell 2; have s0 := g2.free 0; have s1 := g2.free 1; have s2 := g2.free 2
    simp at c2 n0 n1 n2 r0 r1 r2
    have q3 := blk3 g2 (.int .i64 dy) (.int .i64 dm) (.int .i64 dd)
    have k0 := q3.cell 0; have k1 := q3.cell 1; have k2 := q3.cell 2
    simp at k0 k1 k2
    have hgz := (((gz.far ⟨b2, 0, none⟩ hz2 (.int .i64 dy)).far ⟨b2, 1, none⟩ hz2 (.int .i64 dm)).far ⟨b2, 2, none⟩ hz2 (.int .i64 dd))
    have hgr := grown_setN (i := 2) (grown_setN (i := 1) (grown_setN (i := 0) hY hb2w (.int .i64 dy)) hb2w (.int .i64 dm)) hb2w (.int .i64 dd)
    have HMM := HMo.out.grown hgr
    go_wp2_with fail
    refine bodyPost_ret (v := .agg #[.int .i64 dy, .int .i64 dm, .int .i64 dd]) (by simp [results, Try.results102, go_sem, k0, k1, k2]) rfl ?_
    exact ⟨rfl, hgr, _, _, hgz, .inr ⟨b9, rfl, hbz, by rw [HDD.out]; exact ((g9.far _ hne2 _).far _ hne2 _).far _ hne2 _⟩, HMM⟩
end Go.Proofs.Ytfbnllmmoaialaa

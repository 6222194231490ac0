/- School: the maps of a pruner. -/
import Derived.Test.YtidlmbajpbbilaaScSB
import Derived.Test.YtidlmbajpbbilaaTail
import Derived.DeepKeys4
import Derived.ChangeKeysEq
import Derived.Maps.RangeWalk
import Derived.Maps.OwnIn
namespace Go.Proofs.Ytidlmbajpbbilaa
open Go.RowKit

theorem laidTry : laidOutB Try.prog = true := by kernel_rfl
theorem keyPoint : Go.Maps.Keyed Try.prog 149 := Go.Maps.Keyed.of_law (deep_law_laid laidTry (m := 2) (by omega) (of_decide_eq_true (by kernel_rfl)) (by kernel_rfl) (by kernel_rfl))
theorem keyRules : Go.Maps.Keyed Try.prog 106 := Go.Maps.int_keyed Try.underlying106
abbrev ptv (h k : Int) : Value := .agg #[.int .u32 h, .int .i64 k]
def pkey (h k : Int) : Lit := .string (keyBytes [.int .u32 h, .int .i64 k])
theorem pkey_of {h k : Int} (hh : (Lit.int .u32 h).wf = true) (hk : (Lit.int .i64 k).wf = true) : keyOf Try.prog 149 (ptv h k) = some (pkey h k) := by
  have h1 : Try.prog.keyType 149 = true := by kernel_rfl
  have h2 : Try.prog.cellsOf 149 = 2 := by kernel_rfl
  have h3 : Try.prog.cellsOf 106 = 1 := by kernel_rfl
  have h4 : Try.prog.cellsOf 3 = 1 := by kernel_rfl
  have hsz : ∃ n, Try.prog.types.size = n + 1 := ⟨_, (by kernel_rfl : Try.prog.types.size = (Try.prog.types.size - 1) + 1)⟩
  obtain ⟨n, hn⟩ := hsz
  simp only [keyOf, Try.underlying149, h1, Value.formed, h2, hn]
  simp [Program.keyLits, Try.underlying149, Try.underlying106, Try.underlying3, h2, h3, h4, hh, hk, Value.cells, pkey]
set_option maxRecDepth 100000 in
theorem pkey_inv {v : Value} {l : Lit} (h : keyOf Try.prog 149 v = some l) : ∃ a k, v = ptv a k ∧ (Lit.int .u32 a).wf = true ∧ (Lit.int .i64 k).wf = true := by
  have h1 : Try.prog.keyType 149 = true := by kernel_rfl
  have h2 : Try.prog.cellsOf 149 = 2 := by kernel_rfl
  have h3 : Try.prog.cellsOf 106 = 1 := by kernel_rfl
  have h4 : Try.prog.cellsOf 3 = 1 := by kernel_rfl
  have hsz : ∃ n, Try.prog.types.size = n + 1 := ⟨_, (by kernel_rfl : Try.prog.types.size = (Try.prog.types.size - 1) + 1)⟩
  obtain ⟨n, hn⟩ := hsz
  simp only [keyOf, Try.underlying149, h1, hn, Bool.true_and] at h
  split at h
  · rename_i hf
    cases v <;> simp [Value.formed, Try.underlying149, h2] at hf
    rename_i cs
    obtain ⟨cs⟩ := cs
    match cs, hf with
    | [x, y], _ =>
      simp [Program.keyLits, Try.underlying149, Try.underlying106, Try.underlying3, h2, h3, h4, Value.cells] at h
      cases x <;> simp only [Option.bind_none, reduceCtorEq] at h
      rename_i q a
      split at h <;> simp only [Option.bind_none, Option.bind_some, reduceCtorEq, Function.comp] at h
      rename_i hq
      cases y <;> simp only [Option.bind_none, Option.map_none, reduceCtorEq] at h
      split at h
      · rename_i hy
        obtain ⟨rfl, h6⟩ := hy
        obtain ⟨rfl, h5⟩ := hq
        exact ⟨_, _, rfl, h5, h6⟩
      · simp at h
  · cases h
theorem pkey_inj {h k h' k' : Int} (hh : (Lit.int .u32 h).wf = true) (hk : (Lit.int .i64 k).wf = true) (hh' : (Lit.int .u32 h').wf = true) (hk' : (Lit.int .i64 k').wf = true) (e : pkey h k = pkey h' k') : h = h' ∧ k = k' := by
  have := keyPoint.inj (pkey_of hh hk) (e ▸ pkey_of hh' hk')
  simp [ptv] at this
  exact this
theorem wfu {n : Nat} (h : n < 4294967296) : (Lit.int .u32 (n : Int)).wf = true := WalkArith.wf_u32 (by omega)
theorem wfi {n : Nat} (h : n < 1000000) : (Lit.int .i64 (n : Int)).wf = true := WalkArith.wf_i64 (by omega)

/-- what is said of rules that hold, by a school without the rules O -/
def ansH (s : Sch) (O hold : Nat) (kind : Int) : Nat := bset (saidTo s (bset (mainS s (sp s (fun i => hold.testBit i && !O.testBit i) kind) s.rules.length) s.rules.length) s.rules.length) 20
theorem ansN_eq (s : Sch) (O : Nat) (kind : Int) (ch : List Int) : ansN s O kind ch = ansH s O (applN s ch) kind := rfl
theorem ansH_lt (s : Sch) (O hold : Nat) (kind : Int) : ansH s O hold kind < 4294967296 := Nat.lt_of_lt_of_le (bset_lt _ _) (by decide)

abbrev DW := DataW Unit
/-- a map whose keys are the numbers in S -/
def HM (D : DW) (S : Nat → Prop) : Prop := Go.Maps.IsMap D ∧ ∀ kl, Go.Maps.has D kl = true ↔ ∃ h : Nat, S h ∧ kl = .int .u32 (h : Int)
theorem HM.empty : HM (.map []) (fun _ => False) := ⟨Go.Maps.isMap_empty, fun kl => ⟨fun h => by simp [Go.Maps.has] at h, fun ⟨_, h, _⟩ => h.elim⟩⟩
theorem HM.put {D : DW} {S : Nat → Prop} (h : HM D S) (x : Nat) (d : DW) : HM (D.put (.int .u32 (x : Int)) d) (fun y => S y ∨ y = x) := by
  refine ⟨h.1.put _ _, fun kl => ?_⟩
  by_cases e : kl = .int .u32 (x : Int)
  · subst e
    exact ⟨fun _ => ⟨x, .inr rfl, rfl⟩, fun _ => Go.Maps.has_put_same h.1 (show WideAt.IsKeyLit (.int .u32 (x : Int)) from trivial) d⟩
  · rw [Go.Maps.has_put_other e, h.2]
    constructor
    · rintro ⟨y, hy, rfl⟩; exact ⟨y, .inl hy, rfl⟩
    · rintro ⟨y, hy | rfl, rfl⟩
      · exact ⟨y, hy, rfl⟩
      · exact absurd rfl e
theorem HM.congr {D : DW} {S S' : Nat → Prop} (h : HM D S) (e : ∀ x, S x ↔ S' x) : HM D S' := by
  refine ⟨h.1, fun kl => (h.2 kl).trans ?_⟩
  constructor
  · rintro ⟨x, hx, rfl⟩; exact ⟨x, (e x).1 hx, rfl⟩
  · rintro ⟨x, hx, rfl⟩; exact ⟨x, (e x).2 hx, rfl⟩
/-- a map of readings -/
structure RM (s : Sch) (D : DW) (S : Nat → Nat → Prop) : Prop where
  is : Go.Maps.IsMap D
  has : ∀ kl, Go.Maps.has D kl = true ↔ ∃ h k : Nat, S h k ∧ kl = pkey (h : Int) (k : Int)
  wf : ∀ h k, S h k → h < 4294967296 ∧ k < 1000000
  val : ∀ (h k : Nat), S h k → ∀ z, D.atKey (pkey (h : Int) (k : Int)) z = .lit (.int .u32 ((ansH s 0 h (k : Int) : Nat) : Int))
theorem pkey_lit (h k : Int) : WideAt.IsKeyLit (pkey h k) := trivial
theorem pkey_nat {h k h' k' : Nat} (a : h < 4294967296 ∧ k < 1000000) (b : h' < 4294967296 ∧ k' < 1000000) (e : pkey (h : Int) (k : Int) = pkey (h' : Int) (k' : Int)) : h = h' ∧ k = k' := by
  have := pkey_inj (wfu a.1) (wfi a.2) (wfu b.1) (wfi b.2) e
  omega
theorem RM.empty (s : Sch) : RM s (.map []) (fun _ _ => False) := ⟨Go.Maps.isMap_empty, fun kl => ⟨fun h => by simp [Go.Maps.has] at h, fun ⟨_, _, h, _⟩ => h.elim⟩, fun _ _ h => h.elim, fun _ _ h => h.elim⟩
theorem RM.put {s : Sch} {D : DW} {S : Nat → Nat → Prop} (h : RM s D S) (x y : Nat) (hx : x < 4294967296 ∧ y < 1000000) :
    RM s (D.put (pkey (x : Int) (y : Int)) (.lit (.int .u32 ((ansH s 0 x (y : Int) : Nat) : Int)))) (fun a b => S a b ∨ (a = x ∧ b = y)) := by
  refine ⟨h.is.put _ _, fun kl => ?_, ?_, ?_⟩
  · by_cases e : kl = pkey (x : Int) (y : Int)
    · subst e
      exact ⟨fun _ => ⟨x, y, .inr ⟨rfl, rfl⟩, rfl⟩, fun _ => Go.Maps.has_put_same h.is (pkey_lit _ _) _⟩
    · rw [Go.Maps.has_put_other e, h.has]
      constructor
      · rintro ⟨a, b, hy, rfl⟩; exact ⟨a, b, .inl hy, rfl⟩
      · rintro ⟨a, b, hy | ⟨rfl, rfl⟩, rfl⟩
        · exact ⟨a, b, hy, rfl⟩
        · exact absurd rfl e
  · rintro a b (hab | ⟨rfl, rfl⟩)
    · exact h.wf a b hab
    · exact hx
  · intro a b hab z
    by_cases e : pkey (a : Int) (b : Int) = pkey (x : Int) (y : Int)
    · have hab2 : a = x ∧ b = y := by
        rcases hab with hab | hab
        · exact pkey_nat (h.wf a b hab) hx e
        · exact hab
      obtain ⟨rfl, rfl⟩ := hab2
      rw [Go.Maps.atKey_put_same h.is (pkey_lit _ _)]
    · rw [Go.Maps.atKey_put_other e]
      rcases hab with hab | ⟨rfl, rfl⟩
      · exact h.val a b hab z
      · exact absurd rfl e
theorem RM.congr {s : Sch} {D : DW} {S S' : Nat → Nat → Prop} (h : RM s D S) (e : ∀ x y, S x y ↔ S' x y) : RM s D S' := by
  refine ⟨h.is, fun kl => (h.has kl).trans ?_, fun a b hab => h.wf a b ((e a b).2 hab), fun a b hab => h.val a b ((e a b).2 hab)⟩
  constructor
  · rintro ⟨a, b, hx, rfl⟩; exact ⟨a, b, (e a b).1 hx, rfl⟩
  · rintro ⟨a, b, hx, rfl⟩; exact ⟨a, b, (e a b).2 hx, rfl⟩
theorem ownsMap_size {P : Program} {k : TypeId} {R : Value → Option (DW × List MemPlace)} {w : World} {b n : Nat} {D : DW} (h : w.ownsMap P k R b n D) : Go.Maps.size D ≤ n := by
  obtain ⟨es, clock, _, _, hs, rfl⟩ := h
  rw [Go.Maps.size_eq, length_sorted, List.length_map]
  simpa using hs
theorem ownsMap_below {P : Program} {k : TypeId} {R : Value → Option (DW × List MemPlace)} {w w' : World} {b n B : Nat} {D : DW} (h : w.ownsMap P k R b n D) (hb : Below B w w') (hB : b < B) : w'.ownsMap P k R b n D := by
  obtain ⟨es, clock, h1, h2⟩ := h
  exact ⟨es, clock, (hb.block b hB).trans h1, h2⟩
theorem Stab.ownsMap {B b n : Nat} {P : Program} {k : TypeId} {R : Value → Option (DW × List MemPlace)} {D : DW} (hb : b < B) : Stab B (fun W => W.ownsMap P k R b n D) := fun W W' row hs hg hr =>
  hs.kept hg fun e => by have := (hr b e.symm).1; omega
/-- a pruner in memory -/
abbrev PrAt (W : World) (p : Nat) (s : Sch) (O hm rm : Nat) : Prop := Blk W p #[.int .i64 s.places, .int .i64 s.signs, .int .i64 s.kinds, .int .i64 s.answers, s.rv, .int .u32 (O : Int), .map (some hm), .map (some rm)] 135
end Go.Proofs.Ytidlmbajpbbilaa

/- School: which rules speak. -/
import Derived.Test.YtidlmbajpbbilaaScH
namespace Go.Proofs.Ytidlmbajpbbilaa
open Go.RowKit

theorem bool_div (V j : Nat) : (((V / 2 ^ j % 2 : Nat) : Int) == 1) = V.testBit j := by
  rw [Nat.testBit_eq_decide_div_mod_eq]
  have : V / 2 ^ j % 2 = 0 ∨ V / 2 ^ j % 2 = 1 := by omega
  rcases this with h | h <;> rw [h] <;> rfl
theorem bool_div0 (V j : Nat) : (((V / 2 ^ j % 2 : Nat) : Int) == 0) = !V.testBit j := by
  rw [Nat.testBit_eq_decide_div_mod_eq]
  have : V / 2 ^ j % 2 = 0 ∨ V / 2 ^ j % 2 = 1 := by omega
  rcases this with h | h <;> rw [h] <;> rfl
theorem u32_is1 (V j : Nat) (hV : V < 4294967296) : (bits BinOp.and IntKind.u32 ((V : Int) / 2 ^ j) 1 == 1) = V.testBit j := by rw [u32bit V j hV, bool_div]
theorem u32_is0 (V j : Nat) (hV : V < 4294967296) : (bits BinOp.and IntKind.u32 ((V : Int) / 2 ^ j) 1 == 0) = !V.testBit j := by rw [u32bit V j hV, bool_div0]
theorem u32_andnot (H O : Nat) (hH : H < 4294967296) (hO : O < 4294967296) : ∃ X : Nat, X < 4294967296 ∧ bits BinOp.andNot IntKind.u32 (H : Int) (O : Int) = (X : Int) ∧ ∀ j, j < 32 → X.testBit j = (H.testBit j && !O.testBit j) := by
  refine ⟨H &&& (4294967295 - O), Nat.lt_of_le_of_lt Nat.and_le_left hH, u32_andNot_nat H O hH hO, fun j hj => ?_⟩
  have h1 : 4294967295 - O = 2 ^ 32 - (O + 1) := by omega
  rw [Nat.testBit_and, h1, Nat.testBit_two_pow_sub_succ (by omega)]
  simp [hj]
theorem i64_is0 (r : Rul) (kind : Int) (h0 : 0 ≤ r.kinds) (h1 : r.kinds < 16) : (bits BinOp.and IntKind.i64 (r.kinds / 2 ^ kind.toNat) 1 == 0) = !kbit r kind := by
  have hp : (0 : Int) < 2 ^ kind.toNat := Int.pow_pos (by omega)
  have h2 : 0 ≤ r.kinds / 2 ^ kind.toNat := Int.ediv_nonneg h0 (by omega)
  have h3 : r.kinds / 2 ^ kind.toNat ≤ r.kinds := Int.ediv_le_self _ h0
  unfold kbit
  obtain ⟨x, hx⟩ := Int.eq_ofNat_of_zero_le h2
  have e : bits BinOp.and IntKind.i64 (x : Int) 1 = ((x % 2 : Nat) : Int) := by
    have hx2 : x &&& 1 < 2 ^ 63 := Nat.and_lt_two_pow _ (by omega)
    show IntKind.i64.wrap ((BitVec.ofInt 64 (x : Int) &&& BitVec.ofInt 64 ((1 : Nat) : Int)).toNat : Int) = _
    rw [BitVec.toNat_and, BitVec.ofInt_natCast, BitVec.ofInt_natCast, BitVec.toNat_ofNat, BitVec.toNat_ofNat, Nat.mod_eq_of_lt (by omega), Nat.mod_eq_of_lt (by omega), Nat.and_one_is_mod, IntKind.wrap_i64]
    omega
  rw [hx, e]
  have : x % 2 = 0 ∨ x % 2 = 1 := by omega
  have hc : ((x : Int) % 2) = ((x % 2 : Nat) : Int) := by omega
  rw [hc]
  rcases this with h | h <;> rw [h] <;> rfl

theorem ent_speak1 : Ent 87 := ent_of Try.func87 (by kernel_rfl) rfl
theorem speak1_any (V : Nat) (hV : V < 4294967296) (u : Int) (h0 : 0 ≤ u) (h1 : u < 32) (B : Nat) (W : World) (hc : W.cell? ⟨B, 0, none⟩ = some (.int .u32 (V : Int))) :
    Calls Try.prog 87 (#[Value.int .i64 u] ++ #[.pointer (some ⟨B, 0, none⟩)]) W fun e W' => e = .returned (.bool (V.testBit u.toNat)) ∧ Below W.heap.size W W' := by
  obtain ⟨x, rfl⟩ := Int.eq_ofNat_of_zero_le h0
  have HX := Lib.hid (u32_is1 V x hV)
  go_enter Try.func87, Try.ntmps87
  go_wp2
  go_ret
  exact ⟨ret_bool HX.out, Below.refl _ _⟩
theorem unl_any (V : Nat) (hV : V < 4294967296) (r : Rul) (B : Nat) (W : World) (hc : W.cell? ⟨B, 0, none⟩ = some (.int .u32 (V : Int))) (hB : B < W.heap.size) (hu : ∀ u ∈ r.unless_, 0 ≤ u ∧ u < 32)
    (hl : r.unless_.length ≤ 1000000) (hr : Sl intCell 1 W W.heap.size r.ua r.unless_) :
    Calls Try.prog 86 #[.slice r.ua r.unless_.length r.uc, .func (.func 87) #[] #[.pointer (some ⟨B, 0, none⟩)]] W fun e w' => e = .returned (.bool (r.unless_.any fun u => V.testBit u.toNat)) ∧ Below W.heap.size W w' := by
  refine ints_any_any 87 _ r.ua r.uc r.unless_ _ W ent_speak1 hl hr ?_
  intro u hu' W' hW'
  exact speak1_any V hV u (hu u hu').1 (hu u hu').2 B W' (by rw [hW'.cell (p := ⟨B, 0, none⟩) hB]; exact hc)

/-- what a round of speak knows -/
structure SpkRound (s : Sch) (hold : Nat → Bool) (kind : Int) (f : Nat → Bool) (j : Nat) (r : Rul) : Prop where
  eq : f j = (hold j && (kbit r kind && !(r.unless_.any fun u => (bset f j).testBit u.toNat)))
  rnk : rnk s j = r.rank
  mem : r ∈ s.rules
theorem spkRound {s : Sch} (hv : Valid s) (hold : Nat → Bool) (kind : Int) (j : Nat) (hj : j < s.rules.length) : SpkRound s hold kind (sp s hold kind) j s.rules[j] := by
  have ho := hv.rule j hj
  refine ⟨?_, by simp [Go.Proofs.Ytidlmbajpbbilaa.rnk, List.getElem?_eq_getElem hj], List.getElem_mem hj⟩
  rw [sp_eq s hold kind j hj ho.unl]
  have h : (s.rules[j].unless_.any fun u => sp s hold kind u.toNat) = (s.rules[j].unless_.any fun u => (bset (sp s hold kind) j).testBit u.toNat) := by
    rw [Bool.eq_iff_iff, List.any_eq_true, List.any_eq_true]
    constructor
    · rintro ⟨u, hu1, hu2⟩; refine ⟨u, hu1, ?_⟩; have := ho.unl u hu1; rw [bset_testBit, hu2]; simp; omega
    · rintro ⟨u, hu1, hu2⟩; rw [bset_testBit] at hu2; simp at hu2; exact ⟨u, hu1, hu2.2⟩
  rw [h]
end Go.Proofs.Ytidlmbajpbbilaa

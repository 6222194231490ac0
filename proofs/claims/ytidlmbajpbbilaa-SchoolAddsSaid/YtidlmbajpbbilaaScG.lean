/- School: which rules apply. -/
import Derived.Test.YtidlmbajpbbilaaScF
import Derived.Test.YtidlmbajpbbilaaBits
namespace Go.Proofs.Ytidlmbajpbbilaa
open Go.RowKit

abbrev rdv (s : Sch) (R : Value) (out : Int) : Value := .agg #[.int .i64 s.places, .int .i64 s.signs, .int .i64 s.kinds, .int .i64 s.answers, R, .int .u32 out]
/-- rule i applies -/
def appl (s : Sch) (ch : List Int) (i : Nat) : Bool := match s.rules[i]? with | some r => holdsB ch r.when_ | none => false
theorem bset_succ_or (p : Nat → Bool) (k : Nat) (hk : k < 32) : bits BinOp.or IntKind.u32 ((bset p k : Nat) : Int) (2 ^ k % 4294967296) = ((bset p k ||| 2 ^ k : Nat) : Int) := by
  have h1 := bset_lt p k
  have h2 : (2 : Nat) ^ k ≤ 2147483648 := pow_le_bset (by omega)
  have h3 : (2 : Int) ^ k % 4294967296 = ((2 ^ k : Nat) : Int) := by
    have : (2 : Int) ^ k = ((2 ^ k : Nat) : Int) := by simp
    rw [this]; omega
  rw [h3]
  exact u32or (bset p k) (2 ^ k) (by omega) (by omega)
theorem pow_mod32 (k : Nat) (hk : k < 32) : (2 : Int) ^ k % 4294967296 = ((2 ^ k : Nat) : Int) := by
  have h2 : (2 : Nat) ^ k ≤ 2147483648 := pow_le_bset (by omega)
  have e : (2 : Int) ^ k = ((2 ^ k : Nat) : Int) := by simp
  rw [e]
  obtain ⟨x, hx⟩ : ∃ x, x = 2 ^ k := ⟨_, rfl⟩
  rw [← hx] at h2 ⊢
  omega
theorem bset_succ_or' (p : Nat → Bool) (k : Nat) (hk : k < 32) : bits BinOp.or IntKind.u32 ((bset p k : Nat) : Int) (2 ^ k % 4294967296) = ((bset p k ||| 2 ^ k : Nat) : Int) := bset_succ_or p k hk
theorem bset_next {p : Nat → Bool} {k : Nat} (h : p k = true) : bset p k ||| 2 ^ k = bset p (k + 1) := by
  have hlt := bset_lt p k
  have h1 := Nat.two_pow_add_eq_or_of_lt hlt 1
  rw [Nat.mul_one] at h1
  simp only [bset, h, if_true]
  rw [Nat.or_comm, ← h1, Nat.add_comm]
theorem bset_same {p : Nat → Bool} {k : Nat} (h : p k = false) : bset p (k + 1) = bset p k := by simp [bset, h]

set_option maxRecDepth 100000 in
set_option maxHeartbeats 1000000 in
theorem apply_any (s : Sch) (R : Value) (hR : R = s.rv) (out : Int) (A : Option Addr) (c : Nat) (ch : List Int) (n : Nat) (w : World) (hn : n = ch.length) (hr : s.reads w w.heap.size) (hl : s.rules.length ≤ 30)
    (hf : ∀ x ∈ ch, 0 ≤ x ∧ x ≤ 63) (hfit : ∀ r ∈ s.rules, ∀ t ∈ r.when_, TestFit n t) (hc : Sl intCell 1 w w.heap.size A ch) :
    Calls Try.prog 57 #[rdv s R out, .slice A ch.length c] w fun e w' => e = .returned (.int .u32 ((bset (appl s ch) s.rules.length : Nat) : Int)) ∧ Below w.heap.size w w' := by
  obtain ⟨hr0, hl', hrr⟩ := hr
  have HH : ∀ (W : World) (r : Rul), r ∈ s.rules → Below w.heap.size w W → Hid (Calls Try.prog 69 #[.slice r.wa r.when_.length r.wc, .slice A ch.length c] W fun e w' => e = .returned (.bool (holdsB ch r.when_)) ∧ Below W.heap.size W w') := fun W r hr hW => by
    obtain ⟨a1, a2, a3, a4, a5⟩ := hrr r hr
    exact holds_any r.wa A r.wc c ch r.when_ W n hn a3 (hfit r hr) hf ((a1.below hW).more hW.size) ((hc.below hW).more hW.size)
  have HA : ∀ k, (h : k < s.rules.length) → Hid (appl s ch k = holdsB ch s.rules[k].when_) := fun k h => by show _ = _; unfold appl; rw [List.getElem?_eq_getElem h]
  obtain ⟨p, hp⟩ : ∃ p, p = appl s ch := ⟨_, rfl⟩
  rw [← hp] at HA ⊢
  clear hfit hf hc hrr hp hn
  obtain ⟨pl, sg, k, a, ra, rc, rs⟩ := s
  simp only at *
  subst hR
  have HR0 := Lib.hid hr0
  have HHH := Lib.hid HH
  have HAA := Lib.hid HA
  clear hr0 HH HA
  obtain ⟨m, hm⟩ : ∃ m, m = rs.length := ⟨_, rfl⟩
  rw [← hm] at hl ⊢
  simp only [Sch.rv, ← hm]
  have HM := Lib.hid hm
  clear hm
  obtain ⟨cl, hcl⟩ : ∃ cl, cl = ch.length := ⟨_, rfl⟩
  rw [← hcl] at HHH ⊢
  clear hcl
  go_enter Try.func57, Try.ntmps57
  go_wp2
  go_loopw [4, 11] (fun v i wr => ∃ j : Nat, j ≤ m ∧ i = .int .i64 j ∧ v = .int .u32 ((bset p j : Nat) : Int) ∧ Below (w.heap.size + 1) (w.alloc (Obj.cells #[Value.int IntKind.i64 pl, Value.int IntKind.i64 sg, Value.int IntKind.i64 k, Value.int IntKind.i64 a, Value.slice ra m rc, Value.int IntKind.u32 out] 108)) wr) (fun _ i _ => m - (intOf i).toNat)
  case atStart => exact ⟨0, by omega, rfl, rfl, Below.refl _ _⟩
  case round =>
    obtain ⟨j, hj, rfl, rfl, hb⟩ := hrel
    have hsz : w.heap.size + 1 ≤ wr.heap.size := by have := hb.size; simp at this; exact this
    have hbw : Below w.heap.size w wr := ((Below.refl _ w).alloc (Nat.le_refl _) _).trans (hb.mono (by omega))
    by_cases hlt : j < m
    · have hlt2 : j < rs.length := HM.out ▸ hlt
      obtain ⟨ab, ao, rfl, hblk, hcell⟩ := (Sl.below HR0.out hbw).at_ (k := j) (fun _ => rfl) hlt2
      have HAj := HAA.out j hlt2
      obtain ⟨r, hr⟩ : ∃ t, rs[j] = t := ⟨_, rfl⟩
      rw [hr] at hcell HAj
      have c0 : wr.cell? ⟨ab, ao + j * 5, none⟩ = some (.slice r.wa r.when_.length r.wc) := hcell 0 _ rfl
      have c1 : wr.cell? ⟨ab, ao + j * 5 + 1, none⟩ = some (.int .i64 r.kinds) := hcell 1 _ rfl
      have c2 : wr.cell? ⟨ab, ao + j * 5 + 2, none⟩ = some (.int .i64 r.rank) := hcell 2 _ rfl
      have c3 : wr.cell? ⟨ab, ao + j * 5 + 3, none⟩ = some (.slice r.ua r.unless_.length r.uc) := hcell 3 _ rfl
      have c4 : wr.cell? ⟨ab, ao + j * 5 + 4, none⟩ = some (.int .i64 r.says) := hcell 4 _ rfl
      have HOR := Lib.hid (bset_succ_or p j (by omega))
      have HRr := fun W hW => HHH.out W r (hr ▸ List.getElem_mem hlt2) hW
      have HRR := Lib.hid HRr
      clear hcell hr HRr HHH
      go_wp2_with fail
      refine (HRR.out _ ?_).out.mono ?_
      · (repeat (first | exact Below.refl _ _ | assumption | (refine Below.alloc ?_ (by first | omega | (simp; omega) | (simp; done)) _) | (refine Below.setCell ?_ (by first | omega | (simp; omega) | (simp; done)) _) | (refine Below.drew ?_) | (refine belowN ?_ _) | (refine Below.trans ?_ (Below.mono ‹Below _ _ _› (by first | omega | (simp; omega) | (simp; done))))))
      rintro e w2 ⟨rfl, hb2⟩
      have hz2 := hb2.size
      by_cases hh : holdsB ch r.when_ = true
      · rw [hh]
        have hor := HOR.out
        go_wp2
        go_roundw
        case rel => exact ⟨j + 1, by omega, by go_num, by rw [bset_next (HAj.out.trans hh)], by (repeat (first | exact Below.refl _ _ | assumption | (refine Below.alloc ?_ (by first | omega | (simp; omega) | (simp; done)) _) | (refine Below.setCell ?_ (by first | omega | (simp; omega) | (simp; done)) _) | (refine Below.drew ?_) | (refine belowN ?_ _) | (refine Below.trans ?_ (Below.mono ‹Below _ _ _› (by first | omega | (simp; omega) | (simp; done))))))⟩
        case measure => simp [intOf]; omega
      · simp only [Bool.not_eq_true] at hh
        rw [hh]
        go_wp2
        go_roundw
        case rel => exact ⟨j + 1, by omega, by go_num, by rw [bset_same (HAj.out.trans hh)], by (repeat (first | exact Below.refl _ _ | assumption | (refine Below.alloc ?_ (by first | omega | (simp; omega) | (simp; done)) _) | (refine Below.setCell ?_ (by first | omega | (simp; omega) | (simp; done)) _) | (refine Below.drew ?_) | (refine belowN ?_ _) | (refine Below.trans ?_ (Below.mono ‹Below _ _ _› (by first | omega | (simp; omega) | (simp; done))))))⟩
        case measure => simp [intOf]; omega
    · obtain rfl : j = m := by omega
      go_wp2
      go_ret
      exact ⟨rfl, hbw⟩
end Go.Proofs.Ytidlmbajpbbilaa

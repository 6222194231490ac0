/- odds: the laws' helpers own, long. -/
import Derived.Test.YtmfbiohdmhbkoaaGf
import Derived.Laws.AppendOwnNone
import Derived.OwnWalk
import Derived.Maps.AppendAt
namespace Go.Proofs.Ytmfbiohdmhbkoaa
open Go.RowKit

set_option maxRecDepth 100000 in
theorem own0_any (A : Option Addr) (c : Nat) (l : List Int) (w : World) (hl : l.length ≤ 1000000) (hn : A = none → c = 0) (hok : ∀ u ∈ flat intCell l, u.oneCell' = true) (hr : Sl intCell 1 w w.heap.size A l) :
    Calls Try.prog 18 #[.slice A l.length c] w (RetOwn 3 intCell 1 l w) := by
  obtain ⟨i0, hi, iz0, iz1, iz2⟩ := info_parts infoInt
  have hfl : (flat intCell l).length = l.length * 1 := hr.1
  cases A with
  | none =>
    obtain rfl : c = 0 := hn rfl
    have h0 : l.length = 0 := by
      rcases Nat.eq_zero_or_pos l.length with h | h
      · exact h
      · obtain ⟨b, o, e, _⟩ := hr.2 h; cases e
    have hl0 : l = [] := List.eq_nil_of_length_eq_zero h0
    subst hl0
    have hown := World.ownsRow_made (e := 3) (size := 1) w #[] 0 (base := w.heap.size) (Nat.le_refl _) (by simp) (by simp)
    have HO := Lib.hid hown
    clear hown hr hfl
    go_enter Try.func18, Try.ntmps18
    go_wp2_with (at_builtin; refine wpList_append_own_none rfl _ _ 22 rfl w.heap.size 3 i0 1 uInts hi _ _ _ rfl HO.out rfl ?_)
    go_ret
    exact ⟨_, rfl, by simpa [flat] using HO.out, by (repeat (first | exact Below.refl _ _ | assumption | (refine Below.alloc ?_ (by first | omega | (simp; omega) | (simp; done)) _) | (refine Below.setCell ?_ (by first | omega | (simp; omega) | (simp; done)) _) | (refine Below.drew ?_) | (refine belowN ?_ _) | (refine Below.trans ?_ (Below.mono ‹Below _ _ _› (by first | omega | (simp; omega) | (simp; done))))))⟩
  | some ad =>
    have hcell : ∀ (j : Nat) (u : Value), (flat intCell l)[j]? = some u → (w.alloc (.cells #[] 3)).cell? (ad.add j) = some u := fun j u hu => by
      have hpos : 0 < l.length := by
        rcases Nat.eq_zero_or_pos l.length with h | h
        · have : l = [] := List.eq_nil_of_length_eq_zero h
          subst this; simp [flat] at hu
        · exact h
      obtain ⟨b, o, e, hb, hc⟩ := hr.2 hpos
      cases e
      have h1 := hc j u hu
      rw [Go.WideShapes.add_plain, ((Below.refl w.heap.size w).alloc (Nat.le_refl _) _).cell (p := ⟨b, o + j, none⟩) hb]
      exact h1
    have hown := World.ownsRow_made (e := 3) (size := 1) w #[] 0 (base := w.heap.size) (Nat.le_refl _) (by simp) (by simp)
    have HO := Lib.hid hown; have HC := Lib.hid hcell; have HFL := Lib.hid hfl; have HOK := Lib.hid hok
    clear hown hcell hfl hr hok hn
    go_enter Try.func18, Try.ntmps18
    go_wp2_with (at_builtin; refine wpList_append_own _ rfl _ _ 22 rfl w.heap.size 3 i0 (.int .i64 0) 1 8 uInts hi iz0 iz1 iz2 rfl (by decide) _ _ _ rfl HO.out ad l.length c (flat intCell l) rfl HFL.out HC.out HOK.out (by unfold maxLen; omega) (by omega) (by simp) ?_; intro v' w1 hown1 hgrow _)
    have hb1 : Below w.heap.size w w1 := ((Below.refl _ _).alloc (Nat.le_refl _) _).grown hgrow (by simp) (fun g hg => by cases hg; exact Nat.le_refl _)
    have HO1 := Lib.hid hown1
    clear hown1 hgrow
    go_wp2
    go_ret
    exact ⟨_, rfl, by simpa using HO1.out, hb1⟩
theorem sl_of_own {w : World} {base : Nat} {v : Value} {l : List Int} (h : w.ownsRow base 3 1 v l.length (flat intCell l)) : ∃ A c, v = .slice A l.length c ∧ Sl intCell 1 w w.heap.size A l ∧ (A = none → c = 0) := by
  rcases h.2 with ⟨rfl, h0⟩ | ⟨g, cap, cur, rfl, hb, hg, hn, hc, hs, ht⟩
  · exact ⟨none, 0, by rw [h0], ⟨h.1, fun hn => by omega⟩, fun _ => rfl⟩
  · obtain ⟨A, c, h1, h2⟩ := Sl.of_own h
    exact ⟨A, c, h1, h2, fun e => by subst e; cases h1⟩
theorem own_any (A : Option Addr) (c : Nat) (l : List Int) (w : World) (hl : l.length ≤ 1000000) (hn : A = none → c = 0) (hr : Sl intCell 1 w w.heap.size A l) : Calls Try.prog 18 #[.slice A l.length c] w (RetL l w) :=
  (own0_any A c l w hl hn (by rw [flat_int]; intro u hu; obtain ⟨x, _, rfl⟩ := List.mem_map.1 hu; rfl) hr).mono fun _ _ ⟨v, h1, h2, h3⟩ => by
    obtain ⟨A', c', rfl, h4, h5⟩ := sl_of_own h2
    exact ⟨A', c', h1, h4, h5, h3⟩
def longB (n : Nat) : Bool := decide (300 < n) && decide (n ≤ 4096) || decide (4200 < n)
theorem long_any (A : Option Addr) (c : Nat) (l : List Int) (w : World) : Calls Try.prog 15 #[.slice A l.length c] w fun e w' => e = .returned (.bool (longB l.length)) ∧ w = w' := by
  obtain ⟨n, hn⟩ : ∃ n, n = l.length := ⟨_, rfl⟩
  rw [← hn]
  have h1 : decide ((300 : Int) < (n : Int)) = decide (300 < n) := decide_eq_decide.2 (by omega)
  have h2 : decide ((n : Int) ≤ 4096) = decide (n ≤ 4096) := decide_eq_decide.2 (by omega)
  have h3 : decide ((4200 : Int) < (n : Int)) = decide (4200 < n) := decide_eq_decide.2 (by omega)
  clear hn
  by_cases c1 : 300 < n
  · by_cases c2 : n ≤ 4096
    · have HT : Hid (longB n = true) := (by simp [longB, c1, c2] : longB n = true)
      go_enter Try.func15, Try.ntmps15
      go_wp2
      go_ret
      exact ⟨ret_bool HT.out.symm, rfl⟩
    · have HT : Hid (longB n = decide (4200 < n)) := (by simp [longB, c1, c2] : longB n = _)
      go_enter Try.func15, Try.ntmps15
      go_wp2
      go_ret
      exact ⟨ret_bool HT.out.symm, rfl⟩
  · have HT : Hid (longB n = decide (4200 < n)) := (by simp [longB, c1] : longB n = _)
    go_enter Try.func15, Try.ntmps15
    go_wp2
    go_ret
    exact ⟨ret_bool HT.out.symm, rfl⟩
end Go.Proofs.Ytmfbiohdmhbkoaa

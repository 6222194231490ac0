/- Lists of lists made by own: words. (Taken by a program out of XLf.) -/
import Derived.Test.YtmfbiohdmhbkoaaHb
import Derived.Test.YtmfbiohdmhbkoaaHc
namespace Go.Proofs.Ytmfbiohdmhbkoaa
open Go.RowKit

theorem infoInts : (Try.prog.info? 22).map (fun i => (i.zero, i.size, i.bytes)) = some (some (.slice none 0 0), 1, 24) := by kernel_rfl
theorem uIntss : Try.prog.underlying 31 = some (.slice 22) := by kernel_rfl
theorem ownsRow_apart' {W : World} {b b' s s' n n' : Nat} {e e' : TypeId} {v v' : Value} {xs xs' : List Value} (h : W.ownsRow b e s v n xs) (h' : W.ownsRow b' e' s' v' n' xs') (hne : e ≠ e') : v.ownBlock = none ∨ v.ownBlock ≠ v'.ownBlock := by
  rcases h.2 with ⟨rfl, _⟩ | ⟨g, cap, cur, rfl, _, hg, _⟩
  · exact .inl rfl
  · rcases h'.2 with ⟨rfl, _⟩ | ⟨g', cap', cur', rfl, _, hg', _⟩
    · right; simp [Value.ownBlock]
    · right
      simp only [Value.ownBlock, ne_eq, Option.some.injEq]
      rintro rfl
      rw [hg] at hg'; cases hg'; exact hne rfl
/-- a list of lists whose list is a row of its own -/
def RowL (W : World) (q : LL) : Prop := W.ownsRow 0 3 1 q.val q.l.length (flat intCell q.l)
theorem row_below' {W W' : World} {base n s : Nat} {e : TypeId} {v : Value} {xs : List Value} (h : W.ownsRow base e s v n xs) (hb : Below W.heap.size W W') : W'.ownsRow base e s v n xs :=
  World.ownsRow.kept h (row := none) ⟨hb.os, hb.tape, hb.output, hb.size, fun k hk _ => hb.block k hk⟩ (by
    cases hv : v.ownBlock with
    | none => exact .inl rfl
    | some g => exact .inr (fun e => nomatch e))
theorem row_zero {W : World} {base n s : Nat} {e : TypeId} {v : Value} {xs : List Value} (h : W.ownsRow base e s v n xs) : W.ownsRow 0 e s v n xs := by
  refine ⟨h.1, ?_⟩
  rcases h.2 with h | ⟨g, cap, cur, hv, _, hr⟩
  · exact .inl h
  · exact .inr ⟨g, cap, cur, hv, by omega, hr⟩
theorem RowL.sl {W : World} {q : LL} (h : RowL W q) : Sl intCell 1 W W.heap.size q.a q.l := by
  obtain ⟨A, c, hv, hs⟩ := Sl.of_own h
  cases hv
  exact hs
theorem errsW_cong : ∀ {a b : List LL}, a.map LL.l = b.map LL.l → errsW a = errsW b
  | [], [], _ => rfl
  | [], y :: b, h => by cases h
  | x :: a, [], h => by cases h
  | x :: a, y :: b, h => by
    simp only [List.map_cons, List.cons.injEq] at h
    simp only [errsW, h.1, errsW_cong h.2]
end Go.Proofs.Ytmfbiohdmhbkoaa

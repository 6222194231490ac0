/- The law's helper same. -/
import Derived.Test.YtmfbiohdmhbkoaaHc
import Derived.Test.YtmfbiohdmhbkoaaGq
namespace Go.Proofs.Ytmfbiohdmhbkoaa
open Go.RowKit

/-- two lists give the same chances, and both are valid -/
def sameB (a b : List Int) : Bool := decide ((sameR a b).2 = 0) && (sameR a b).1
theorem sameB_self {a : List Int} (h : errW a = 0) : sameB a a = true := by
  have e : sameR a a = (true, 0) := by
    unfold sameR
    rw [show (if errW a ≠ 0 then errW a else errW a) = 0 by rw [if_neg (fun hh => hh h), h]]
    rw [if_neg (fun h => h rfl), beq_self_eq_true]
  unfold sameB; rw [e]; rfl
set_option maxHeartbeats 1000000 in
theorem lsame_any (A A2 : Option Addr) (c c2 : Nat) (a b : List Int) (w : World) (hl : a.length ≤ 1000000) (hl2 : b.length ≤ 1000000) (hz : A = none → c = 0) (hz2 : A2 = none → c2 = 0) (hr : Sl intCell 1 w w.heap.size A a) (hr2 : Sl intCell 1 w w.heap.size A2 b) :
    Calls Try.prog 30 #[.slice A a.length c, .slice A2 b.length c2] w fun e w' => e = .returned (.bool (sameB a b)) ∧ Below w.heap.size w w' := by
  have HR := Lib.hid hr; have HR2 := Lib.hid hr2
  obtain ⟨⟨s, er⟩, hs⟩ : ∃ x, sameR a b = x := ⟨_, rfl⟩
  have HS := Lib.hid hs
  have HB : Hid (sameB a b = (decide (er = 0) && s)) := (by unfold sameB; rw [hs] : sameB a b = _)
  clear hr hr2 hs
  by_cases he : er = 0
  · subst he
    have HT : Hid (sameB a b = s) := (by rw [HB.out]; simp : sameB a b = s)
    go_enter Try.func30, Try.ntmps30
    go_wp2_with (first | (go_at_call 18; have _ := hb1; (with_reducible refine (own_any A2 c2 b w1 hl2 hz2 ((HR2.out.below hb1).more hb1.size)).mono ?_); rintro _ w2 ⟨B2, d2, rfl, hs2, -, hb2⟩) | (go_at_call 18; (with_reducible refine (own_any A c a w hl hz HR.out).mono ?_); rintro _ w1 ⟨B1, d1, rfl, hs1, -, hb1⟩) | (go_at_call 50; refine (same_any B1 B2 d1 d2 a b w2 (by omega) (by omega) ((hs1.below hb2).more hb2.size) hs2).mono ?_; rw [HS.out]; rintro _ w3 ⟨rfl, hb3⟩))
    go_ret
    exact ⟨ret_bool HT.out.symm, bl2 (bl2 hb1 hb2) hb3⟩
  · have HT : Hid (sameB a b = false) := (by rw [HB.out]; simp [he] : sameB a b = false)
    have hb : (er == 0) = false := by simpa using he
    clear he
    go_enter Try.func30, Try.ntmps30
    go_wp2_with (first | (go_at_call 18; have _ := hb1; (with_reducible refine (own_any A2 c2 b w1 hl2 hz2 ((HR2.out.below hb1).more hb1.size)).mono ?_); rintro _ w2 ⟨B2, d2, rfl, hs2, -, hb2⟩) | (go_at_call 18; (with_reducible refine (own_any A c a w hl hz HR.out).mono ?_); rintro _ w1 ⟨B1, d1, rfl, hs1, -, hb1⟩) | (go_at_call 50; refine (same_any B1 B2 d1 d2 a b w2 (by omega) (by omega) ((hs1.below hb2).more hb2.size) hs2).mono ?_; rw [HS.out]; rintro _ w3 ⟨rfl, hb3⟩))
    go_ret
    exact ⟨ret_bool HT.out.symm, bl2 (bl2 hb1 hb2) hb3⟩
end Go.Proofs.Ytmfbiohdmhbkoaa

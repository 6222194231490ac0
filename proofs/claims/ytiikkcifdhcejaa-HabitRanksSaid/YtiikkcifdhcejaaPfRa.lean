/- The row HabitRanks holds: for every input the law returns true and leaves its arguments as they were. -/
import Derived.Test.YtiikkcifdhcejaaZ28Fk
import Derived.Test.YtiikkcifdhcejaaLg
namespace Go.Proofs.Ytiikkcifdhcejaa
open Go.RowKit Go.ChangeShapes Go.WideShapes Go.ChangeAt Go.Deep

set_option maxRecDepth 100000 in
theorem habitRanks_lifted (os : Os) (started : os.Started) (H : Type) (enc : TypeId × Value → H) :
    ReturnsInHanded {} Try.checked os 10 .any (Rows.habitRanksSpec.pre6 enc Try.prog Try.f10 Rows.habitRanksRow.domain false) (Rows.habitRanksSpec.post enc Try.prog Try.f10 false true false false) := by
  refine returnsInHanded_of_change (C := Try.checked) own_godebug started (by kernel_rfl) Try.func10
    (ChangeSpec.witness6 (enc := enc) (C := Try.checked) false ⟨#[], #[.slice none 0 0, .slice none 0 0], []⟩ 8 (by kernel_rfl) (by kernel_rfl) (by kernel_rfl) (by kernel_rfl)) ?_
  intro W base args ds gs before hval0 hW hcnd _
  have hval : ∀ (j : Nat) t v, Try.f10.params[j]? = some t → args[j]? = some v → Value.okWide Try.prog W .any base t v := hval0
  have hW' := hW
  obtain ⟨p, q, hA0, hV, rfl, hfz, hnd⟩ := hW
  have hA : DataW.TrodAll enc Try.prog W 0 (fun _ => true) true Try.f10.params.toList args.toList ds p := hA0
  rw [Try.params10] at hA hval
  obtain ⟨v0, v1, d0, d1, p0, p1, rfl, rfl, rfl, h0, h1⟩ := trodAll_two hA
  obtain ⟨rfl, rfl⟩ := trodVars_none hV
  obtain ⟨A0, c0, ms0, rfl, hs0, hq0⟩ := arg_models (hval 0 41 v0 rfl rfl) h0
  obtain ⟨A1, c1, l1, rfl, hs1, hz1, hc1⟩ := arg_ints (hval 1 30 v1 rfl rfl) h1
  clear hA0 hval0
  simp only [List.append_nil] at hW'
  refine (lwrank_any A0 c0 ms0 A1 c1 l1 W hs0 hq0 hs1 hz1).mono fun e W' ⟨he, hb⟩ => ?_
  subst he
  have hlt : ∀ x ∈ p0 ++ p1, x.block < W.heap.size := fun x hx => hW'.lt x hx
  exact ⟨_, rfl, row_end rfl hW' hb (trodAll_mk1 (t := 4) (shut_bool (by kernel_rfl) true))
    (trodAll_mk2 (stays (sp := fun b => decide (b < W.heap.size)) (by kernel_rfl) (of_decide_eq_true (by kernel_rfl)) h0 hb (fun x hx => hlt x (by simp [hx])) (fun x hx => decide_eq_true (hlt x (by simp [hx]))))
      (stays (sp := fun b => decide (b < W.heap.size)) (by kernel_rfl) (of_decide_eq_true (by kernel_rfl)) h1 hb (fun x hx => hlt x (by simp [hx])) (fun x hx => decide_eq_true (hlt x (by simp [hx]))))) rfl⟩
theorem habitRanks_holds : Rows.HabitRanksSaid :=
  OpenClaim.holds_of_wide 10 Try.f10 rfl rfl rfl rfl rfl rfl rfl ⟨rfl, rfl, rfl, rfl, rfl⟩ rfl rfl rfl rfl rfl (by kernel_rfl) Try.func10 (by kernel_rfl)
    (of_decide_eq_true (by kernel_rfl)) (by unfold Func.isWrapper; first | (rw [if_pos (by decide +kernel)]; kernel_rfl) | (rw [if_neg (by decide +kernel)]; exact ⟨rfl, rfl⟩))
    (fun os started H enc _ => habitRanks_lifted os started H enc)
end Go.Proofs.Ytiikkcifdhcejaa

/- The row HabitOrder holds: for every input the law returns true and leaves its arguments as they were. -/
import Derived.Test.YtiikkcifdhcejaaZ28Fk
import Derived.Test.YtiikkcifdhcejaaLh
namespace Go.Proofs.Ytiikkcifdhcejaa
open Go.RowKit Go.ChangeShapes Go.WideShapes Go.ChangeAt Go.Deep

set_option maxRecDepth 100000 in
theorem habitOrder_lifted (os : Os) (started : os.Started) (H : Type) (enc : TypeId × Value → H) :
    ReturnsInHanded {} Try.checked os 5 .any (Rows.habitOrderSpec.pre6 enc Try.prog Try.f5 Rows.habitOrderRow.domain false) (Rows.habitOrderSpec.post enc Try.prog Try.f5 false true false false) := by
  refine returnsInHanded_of_change (C := Try.checked) own_godebug started (by kernel_rfl) Try.func5
    (ChangeSpec.witness6 (enc := enc) (C := Try.checked) false ⟨#[], #[.agg #[.int .i64 0, .slice none 0 0, .int .i64 0], .slice none 0 0, .int .u8 0], []⟩ 8 (by kernel_rfl) (by kernel_rfl) (by kernel_rfl) (by kernel_rfl)) ?_
  intro W base args ds gs before hval0 hW hcnd _
  have hval : ∀ (j : Nat) t v, Try.f5.params[j]? = some t → args[j]? = some v → Value.okWide Try.prog W .any base t v := hval0
  have hW' := hW
  obtain ⟨p, q, hA0, hV, rfl, hfz, hnd⟩ := hW
  have hA : DataW.TrodAll enc Try.prog W 0 (fun _ => true) true Try.f5.params.toList args.toList ds p := hA0
  rw [Try.params5] at hA hval
  obtain ⟨v0, v1, v2, d0, d1, d2, p0, p1, p2, rfl, rfl, rfl, h0, h1, h2⟩ := trodAll_three hA
  obtain ⟨rfl, rfl⟩ := trodVars_none hV
  obtain ⟨x0, rfl, ha0, hm0⟩ := arg_model (hval 0 25 v0 rfl rfl) h0
  obtain ⟨A1, c1, l1, rfl, hs1, hz1, hc1⟩ := arg_ints (hval 1 30 v1 rfl rfl) h1
  obtain ⟨a2, rfl, hq2, hr2⟩ := arg_u8 (hval 2 5 v2 rfl rfl) h2
  clear hA0 hval0
  simp only [List.append_nil] at hW'
  refine (lword_any x0 A1 c1 l1 a2 W ha0 hm0 hs1 hz1 hc1 hq2 hr2).mono fun e W' ⟨he, hb⟩ => ?_
  subst he
  have hlt : ∀ x ∈ p0 ++ p1 ++ p2, x.block < W.heap.size := fun x hx => hW'.lt x hx
  rw [List.append_assoc] at hW'
  exact ⟨_, rfl, row_end rfl hW' hb (trodAll_mk1 (t := 4) (shut_bool (by kernel_rfl) true))
    (trodAll_mk3 (stays (sp := fun b => decide (b < W.heap.size)) (by kernel_rfl) (of_decide_eq_true (by kernel_rfl)) h0 hb (fun x hx => hlt x (by simp [hx])) (fun x hx => decide_eq_true (hlt x (by simp [hx]))))
      (stays (sp := fun b => decide (b < W.heap.size)) (by kernel_rfl) (of_decide_eq_true (by kernel_rfl)) h1 hb (fun x hx => hlt x (by simp [hx])) (fun x hx => decide_eq_true (hlt x (by simp [hx]))))
      (stays (sp := fun b => decide (b < W.heap.size)) (by kernel_rfl) (of_decide_eq_true (by kernel_rfl)) h2 hb (fun x hx => hlt x (by simp [hx])) (fun x hx => decide_eq_true (hlt x (by simp [hx]))))) rfl⟩
theorem habitOrder_holds : Rows.HabitOrderSaid :=
  OpenClaim.holds_of_wide 5 Try.f5 rfl rfl rfl rfl rfl rfl rfl ⟨rfl, rfl, rfl, rfl, rfl⟩ rfl rfl rfl rfl rfl (by kernel_rfl) Try.func5 (by kernel_rfl)
    (of_decide_eq_true (by kernel_rfl)) (by unfold Func.isWrapper; first | (rw [if_pos (by decide +kernel)]; kernel_rfl) | (rw [if_neg (by decide +kernel)]; exact ⟨rfl, rfl⟩))
    (fun os started H enc _ => habitOrder_lifted os started H enc)
end Go.Proofs.Ytiikkcifdhcejaa

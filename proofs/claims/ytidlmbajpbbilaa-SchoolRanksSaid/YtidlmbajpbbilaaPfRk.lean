/- The row SchoolRanks holds: for every input the law returns true and leaves its arguments as they were. -/
import Derived.Test.YtidlmbajpbbilaaZ23Fr
import Derived.Test.YtidlmbajpbbilaaRkF
namespace Go.Proofs.Ytidlmbajpbbilaa
open Go.RowKit Go.ChangeShapes Go.WideShapes Go.ChangeAt Go.Deep

set_option maxRecDepth 100000 in
theorem arg_rule {H : Type} {enc : TypeId × Value → H} {W : World} {v : Value} {d : DataW H} {p : List MemPlace} {b0 : Nat} (hv : Value.okWide Try.prog W .any b0 82 v) (h : DataW.Trod enc Try.prog W 0 (fun _ => true) true 82 v d p) :
    ∃ q : Rul, v = .agg #[.slice q.wa q.when_.length q.wc, .int .i64 q.kinds, .int .i64 q.rank, .slice q.ua q.unless_.length q.uc, .int .i64 q.says] ∧ q.wreads W W.heap.size ∧ q.nil0 := by
  obtain ⟨cs, rfl, hsz⟩ := okWide_struct Try.underlying82 hv
  obtain ⟨fuel, hf⟩ := h
  have hC : Try.prog.cellsOf 82 = 5 := by kernel_rfl
  obtain ⟨q, ⟨h1, h3⟩, h2⟩ := open_rule hf (by simp [Value.cells]; omega)
  exact ⟨q, by simp only [Value.cells] at h2; obtain ⟨l⟩ := cs; simp [Rul.cells] at h2; subst h2; rfl, h1, h3⟩
set_option maxRecDepth 100000 in
theorem schoolRanks_lifted (os : Os) (started : os.Started) (H : Type) (enc : TypeId × Value → H) :
    ReturnsInHanded {} Try.checked os 9 .any (Rows.schoolRanksSpec.pre6 enc Try.prog Try.f9 Rows.schoolRanksRow.domain false) (Rows.schoolRanksSpec.post enc Try.prog Try.f9 false true false false) := by
  refine returnsInHanded_of_change (C := Try.checked) own_godebug started (by kernel_rfl) Try.func9
    (ChangeSpec.witness6 (enc := enc) (C := Try.checked) false ⟨#[], #[.agg #[.int .i64 0, .int .i64 0, .int .i64 0, .int .i64 0, .slice none 0 0], .agg #[.slice none 0 0, .int .i64 0, .int .i64 0, .slice none 0 0, .int .i64 0], .slice none 0 0], []⟩ 8 (by kernel_rfl) (by kernel_rfl) (by kernel_rfl) (by kernel_rfl)) ?_
  intro W base args ds gs before hval0 hW hcnd _
  have hval : ∀ (j : Nat) t v, Try.f9.params[j]? = some t → args[j]? = some v → Value.okWide Try.prog W .any base t v := hval0
  have hW' := hW
  obtain ⟨p, q, hA0, hV, rfl, hfz, hnd⟩ := hW
  have hA : DataW.TrodAll enc Try.prog W 0 (fun _ => true) true Try.f9.params.toList args.toList ds p := hA0
  rw [Try.params9] at hA hval
  obtain ⟨v0, v1, v2, d0, d1, d2, p0, p1, p2, rfl, rfl, rfl, h0, h1, h2⟩ := trodAll_three hA
  obtain ⟨rfl, rfl⟩ := trodVars_none hV
  obtain ⟨s0, rfl, hw0, hn0⟩ := arg_school (hval 0 24 v0 rfl rfl) h0
  obtain ⟨q1, rfl, hq1, hq0⟩ := arg_rule (hval 1 82 v1 rfl rfl) h1
  obtain ⟨A2, c2, l2, rfl, hs2, hz2, ho2⟩ := arg_bytes (hval 2 65 v2 rfl rfl) h2
  clear hA0 hval0
  simp only [List.append_nil] at hW'
  refine (lwranks_any s0 q1 A2 c2 l2 W hw0 hn0 hq1 hq0 hs2 ho2).mono fun e W' ⟨he, hb⟩ => ?_
  subst he
  have hlt : ∀ x ∈ p0 ++ p1 ++ p2, x.block < W.heap.size := fun x hx => hW'.lt x hx
  rw [List.append_assoc] at hW'
  exact ⟨_, rfl, row_end rfl hW' hb (trodAll_mk1 (t := 4) (shut_bool (by kernel_rfl) true))
    (trodAll_mk3 (stays (sp := fun b => decide (b < W.heap.size)) (by kernel_rfl) (of_decide_eq_true (by kernel_rfl)) h0 hb (fun x hx => hlt x (by simp [hx])) (fun x hx => decide_eq_true (hlt x (by simp [hx]))))
      (stays (sp := fun b => decide (b < W.heap.size)) (by kernel_rfl) (of_decide_eq_true (by kernel_rfl)) h1 hb (fun x hx => hlt x (by simp [hx])) (fun x hx => decide_eq_true (hlt x (by simp [hx]))))
      (stays (sp := fun b => decide (b < W.heap.size)) (by kernel_rfl) (of_decide_eq_true (by kernel_rfl)) h2 hb (fun x hx => hlt x (by simp [hx])) (fun x hx => decide_eq_true (hlt x (by simp [hx]))))) rfl⟩
theorem schoolRanks_holds : Rows.SchoolRanksSaid :=
  OpenClaim.holds_of_wide 9 Try.f9 rfl rfl rfl rfl rfl rfl rfl ⟨rfl, rfl, rfl, rfl, rfl⟩ rfl rfl rfl rfl rfl (by kernel_rfl) Try.func9 (by kernel_rfl)
    (of_decide_eq_true (by kernel_rfl)) (by unfold Func.isWrapper; first | (rw [if_pos (by decide +kernel)]; kernel_rfl) | (rw [if_neg (by decide +kernel)]; exact ⟨rfl, rfl⟩))
    (fun os started H enc _ => schoolRanks_lifted os started H enc)
end Go.Proofs.Ytidlmbajpbbilaa

/- The law SchoolAdds: the walk, all cases. -/
import Derived.Test.YtidlmbajpbbilaaAdB
import Derived.Test.YtidlmbajpbbilaaFr
import Derived.Test.YtidlmbajpbbilaaFrQ
namespace Go.Proofs.Ytidlmbajpbbilaa
open Go.RowKit

set_option maxRecDepth 100000 in
set_option maxHeartbeats 8000000 in
theorem lwadds_any (s : Sch) (q : Clm) (part : Int) (w : World) (hr : s.wreads w w.heap.size) (h0 : s.nil0) (hq : (Sl setCell1 1 w w.heap.size q.sa q.sets ∧ ∀ x ∈ q.sets, IsU64 x) ∧ q.nil0) (hp : IsU64 part) :
    Calls Try.prog 6 #[scv s s.rv, .agg #[.int .i64 q.kind, .slice q.sa q.sets.length q.sc, .bool q.total, .bool q.clear], .int .u64 part] w fun e w' => e = .returned (.bool true) ∧ Below w.heap.size w w' := by
  obtain ⟨kind, A, c, sets, tt, cc⟩ := q
  obtain ⟨⟨hA, ho⟩, hn⟩ := hq
  simp only at hA ho ⊢
  have HRR := Lib.hid hr; have HAA := Lib.hid hA; have HN0 := Lib.hid h0; have HO := Lib.hid ho
  have hn' : A = none → c = 0 := hn
  have HN := Lib.hid hn'
  clear hr hA h0 ho hn hn'
  by_cases hg : largeB s 600 = true
  · go_enter Try.func6, Try.ntmps6
    go_wp2_with (first | (go_at_call 14; refine (large_any s 600 _ ((HRR.out.below (by (repeat (first | exact Below.refl _ _ | assumption | (refine Below.alloc ?_ (by first | omega | (simp; omega) | (simp; done)) _) | (refine Below.setCell ?_ (by first | omega | (simp; omega) | (simp; done)) _) | (refine Below.drew ?_) | (refine belowN ?_ _) | (refine Below.trans ?_ (Below.mono ‹Below _ _ _› (by first | omega | (simp; omega) | (simp; done)))))))).more (by simp; omega))).mono ?_; rintro _ W1 ⟨rfl, hbx⟩; rw [hg]; have hw1 := bl2 (bla (bla (Below.refl _ _))) hbx; have g2 : Blk W1 (w.heap.size + 1) #[.int .i64 kind, .slice A sets.length c, .bool tt, .bool cc] 43 := (Blk.at_ (by simp)).below hbx (by first | omega | (simp; omega) | (simp; done)); have t1 := g2.cell 1; simp at t1) | (go_at_call 15; refine (known_any _).mono ?_; rintro _ Wk ⟨rfl, hbk'⟩))
    go_ret
    exact ⟨rfl, bl2 hw1 hbk'⟩
  · simp only [Bool.not_eq_true] at hg
    by_cases h10 : sets.length ≤ 10
    · exact lwadds_ok s kind A c sets tt cc part w HRR HN0 HAA HO HN.out hp hg h10
    · have d1 : decide (10 < (sets.length : Int)) = true := by simp; omega
      have d1' : decide (10 < sets.length) = true := by simp; omega
      go_enter Try.func6, Try.ntmps6
      go_wp2_with (first | (go_at_call 14; refine (large_any s 600 _ ((HRR.out.below (by (repeat (first | exact Below.refl _ _ | assumption | (refine Below.alloc ?_ (by first | omega | (simp; omega) | (simp; done)) _) | (refine Below.setCell ?_ (by first | omega | (simp; omega) | (simp; done)) _) | (refine Below.drew ?_) | (refine belowN ?_ _) | (refine Below.trans ?_ (Below.mono ‹Below _ _ _› (by first | omega | (simp; omega) | (simp; done)))))))).more (by simp; omega))).mono ?_; rintro _ W1 ⟨rfl, hbx⟩; rw [hg]; have hw1 := bl2 (bla (bla (Below.refl _ _))) hbx; have g2 : Blk W1 (w.heap.size + 1) #[.int .i64 kind, .slice A sets.length c, .bool tt, .bool cc] 43 := (Blk.at_ (by simp)).below hbx (by first | omega | (simp; omega) | (simp; done)); have t1 := g2.cell 1; simp at t1) | (go_at_call 15; refine (known_any _).mono ?_; rintro _ Wk ⟨rfl, hbk'⟩))
      go_ret
      exact ⟨rfl, bl2 hw1 hbk'⟩
end Go.Proofs.Ytidlmbajpbbilaa
namespace Go.Proofs.Ytidlmbajpbbilaa
open Go.RowKit Go.ChangeShapes Go.WideShapes Go.ChangeAt Go.Deep

set_option maxRecDepth 100000 in
theorem schoolAdds_lifted (os : Os) (started : os.Started) (H : Type) (enc : TypeId × Value → H) :
    ReturnsInHanded {} Try.checked os 6 .any (Rows.schoolAddsSpec.pre6 enc Try.prog Try.f6 Rows.schoolAddsRow.domain false) (Rows.schoolAddsSpec.post enc Try.prog Try.f6 false true false false) := by
  refine returnsInHanded_of_change (C := Try.checked) own_godebug started (by kernel_rfl) Try.func6
    (ChangeSpec.witness6 (enc := enc) (C := Try.checked) false ⟨#[], #[.agg #[.int .i64 0, .int .i64 0, .int .i64 0, .int .i64 0, .slice none 0 0], .agg #[.int .i64 0, .slice none 0 0, .bool false, .bool false], .int .u64 0], []⟩ 8 (by kernel_rfl) (by kernel_rfl) (by kernel_rfl) (by kernel_rfl)) ?_
  intro W base args ds gs before hval0 hW hcnd _
  have hval : ∀ (j : Nat) t v, Try.f6.params[j]? = some t → args[j]? = some v → Value.okWide Try.prog W .any base t v := hval0
  have hW' := hW
  obtain ⟨p, q, hA0, hV, rfl, hfz, hnd⟩ := hW
  have hA : DataW.TrodAll enc Try.prog W 0 (fun _ => true) true Try.f6.params.toList args.toList ds p := hA0
  rw [Try.params6] at hA hval
  obtain ⟨v0, v1, v2, d0, d1, d2, p0, p1, p2, rfl, rfl, rfl, h0, h1, h2⟩ := trodAll_three hA
  obtain ⟨rfl, rfl⟩ := trodVars_none hV
  obtain ⟨s0, rfl, hw0, hn0⟩ := arg_school (hval 0 24 v0 rfl rfl) h0
  obtain ⟨q1, rfl, hq1⟩ := arg_claim (hval 1 43 v1 rfl rfl) h1
  obtain ⟨a2, rfl, ha2⟩ := arg_u64 (hval 2 63 v2 rfl rfl) h2
  clear hA0 hval0
  simp only [List.append_nil] at hW'
  refine (lwadds_any s0 q1 a2 W hw0 hn0 hq1 ha2).mono fun e W' ⟨he, hb⟩ => ?_
  subst he
  have hlt : ∀ x ∈ p0 ++ p1 ++ p2, x.block < W.heap.size := fun x hx => hW'.lt x hx
  rw [List.append_assoc] at hW'
  exact ⟨_, rfl, row_end rfl hW' hb (trodAll_mk1 (t := 4) (shut_bool (by kernel_rfl) true))
    (trodAll_mk3 (stays (sp := fun b => decide (b < W.heap.size)) (by kernel_rfl) (of_decide_eq_true (by kernel_rfl)) h0 hb (fun x hx => hlt x (by simp [hx])) (fun x hx => decide_eq_true (hlt x (by simp [hx]))))
      (stays (sp := fun b => decide (b < W.heap.size)) (by kernel_rfl) (of_decide_eq_true (by kernel_rfl)) h1 hb (fun x hx => hlt x (by simp [hx])) (fun x hx => decide_eq_true (hlt x (by simp [hx]))))
      (stays (sp := fun b => decide (b < W.heap.size)) (by kernel_rfl) (of_decide_eq_true (by kernel_rfl)) h2 hb (fun x hx => hlt x (by simp [hx])) (fun x hx => decide_eq_true (hlt x (by simp [hx]))))) rfl⟩
theorem schoolAdds_holds : Rows.SchoolAddsSaid :=
  OpenClaim.holds_of_wide 6 Try.f6 rfl rfl rfl rfl rfl rfl rfl ⟨rfl, rfl, rfl, rfl, rfl⟩ rfl rfl rfl rfl rfl (by kernel_rfl) Try.func6 (by kernel_rfl)
    (of_decide_eq_true (by kernel_rfl)) (by unfold Func.isWrapper; first | (rw [if_pos (by decide +kernel)]; kernel_rfl) | (rw [if_neg (by decide +kernel)]; exact ⟨rfl, rfl⟩))
    (fun os started H enc _ => schoolAdds_lifted os started H enc)
end Go.Proofs.Ytidlmbajpbbilaa

/- The row SchoolReads holds: for every school, chart and pair of a number and a kind, the law returns true and leaves its arguments as they were. -/
import Derived.Test.YtidlmbajpbbilaaOpC
import Derived.Test.YtidlmbajpbbilaaRows
import Derived.Test.YtidlmbajpbbilaaChecked
import Derived.ProofKit
import Derived.Below
import Derived.Carry
import Derived.OpenShut
import Derived.ChangeSame
namespace Go.Proofs.Ytidlmbajpbbilaa
open Go.ChangeShapes Go.WideShapes Go.ChangeAt Go.RowKit Go.Deep

theorem own_godebug : ownKnob Try.prog.godebug = none := by kernel_rfl
theorem laidOut_ : laidOutB Try.prog = true := by kernel_rfl
section
variable {H : Type} {enc : TypeId × Value → H}
/-- The row's last step for a law without variables of the package that leaves what was there: results and arguments are given, what was not reached stays by the frame. -/
theorem row_end {f : Func} {c : ChangeSpec} {W W' : World} {args : Array Value} {v : Value} {ds : List (DataW H)} {ps : List MemPlace} (hv : c.vars = [])
    (hW : DataW.Whole enc Try.prog f.params.toList c.vars false W args.toList ds [] ps) (hb : Below W.heap.size W W')
    (hr : DataW.TrodAll enc Try.prog W' W.heap.size (fun _ => false) false f.resultTypes.toList (v.resultList f.resultTypes.size) (c.fn H ds).results [])
    (ha : DataW.TrodAll enc Try.prog W' 0 (fun b => decide (b < W.heap.size)) true f.params.toList args.toList (c.fn H ds).args ps) (hn : (c.fn H ds).vars = []) :
    c.post enc Try.prog f false true false false W args v W' := by
  have hk : W.keptBut W' (· ∈ ps) := hb.frame (· ∈ ps)
  have hd : ds ++ ([] : List (DataW H)) = ds := List.append_nil ds
  unfold ChangeSpec.post
  refine ⟨ds, [], ps, [], ps, [], hW, ?_, ?_, ?_, World.keptBut_mono (fun x hx => ⟨hx, Or.inr (Or.inl hx)⟩) hk, Bool.noConfusion⟩
  · rw [hd]; exact hr
  · rw [hd]; exact ha
  · rw [hd, hv, hn]; exact rfl
set_option maxRecDepth 100000 in
theorem arg_school {W : World} {v : Value} {d : DataW H} {p : List MemPlace} {b0 : Nat} (hv : Value.okWide Try.prog W .any b0 24 v) (h : DataW.Trod enc Try.prog W 0 (fun _ => true) true 24 v d p) : ∃ s : Sch, v = scv s s.rv ∧ s.wreads W W.heap.size ∧ s.nil0 := by
  obtain ⟨cs, rfl, hsz⟩ := okWide_struct Try.underlying24 hv
  obtain ⟨fuel, hf⟩ := h
  have hC : Try.prog.cellsOf 24 = 5 := by kernel_rfl
  obtain ⟨s, h1, h2, h3⟩ := open_school hf (by simp [Value.cells]; omega)
  exact ⟨s, by simp only [Value.cells] at h3; obtain ⟨l⟩ := cs; simp at h3; subst h3; rfl, h1, h2⟩
set_option maxRecDepth 100000 in
theorem arg_ints {W : World} {v : Value} {d : DataW H} {p : List MemPlace} {b0 : Nat} (hv : Value.okWide Try.prog W .any b0 28 v) (h : DataW.Trod enc Try.prog W 0 (fun _ => true) true 28 v d p) : ∃ A c l, v = .slice A l.length c ∧ Sl intCell 1 W W.heap.size A l ∧ (A = none → c = 0) := by
  obtain ⟨fuel, hf⟩ := h
  obtain ⟨A, c, l, h1, h2, h3⟩ := open_ints uInts (by kernel_rfl) (by kernel_rfl) hf
  refine ⟨A, c, l, ?_, h2, h3⟩
  simp only [Value.okWide, uInts, Cell.okWide] at hv
  cases v <;> simp_all [Value.cells, Cell.ok]
set_option maxRecDepth 100000 in
theorem arg_pair {W : World} {v : Value} {d : DataW H} {p : List MemPlace} {b0 : Nat} (hv : Value.okWide Try.prog W .any b0 87 v) (h : DataW.Trod enc Try.prog W 0 (fun _ => true) true 87 v d p) : ∃ a b : Int, v = .agg #[.int .i64 a, .int .i64 b] := by
  have hu : Try.prog.underlying 87 = some (.array 2 3) := by kernel_rfl
  have hC : Try.prog.cellsOf 87 = 2 := by kernel_rfl
  have hC1 : Try.prog.cellsOf 3 = 1 := by kernel_rfl
  obtain ⟨cs, rfl, hsz⟩ : ∃ cs, v = .agg cs ∧ cs.size = Try.prog.cellsOf 87 := by
    simp only [Value.okWide, hu] at hv
    obtain ⟨cs, h1, h2, _⟩ := hv
    exact ⟨cs, h1, h2⟩
  obtain ⟨fuel, hf⟩ := h
  obtain ⟨xs, m, _, _, hl, hxl, hi⟩ := DataW.trod_array hu hf
  obtain ⟨l⟩ := cs
  match l, hsz.trans hC with
  | [c0, c1], _ =>
    have t0 := hi 0 (by omega); have t1 := hi 1 (by omega)
    rw [hC1, List.getElem?_eq_getElem (by omega)] at t0 t1
    simp [Value.cells] at t0 t1
    obtain ⟨a, ha, _⟩ := DataW.trod_int (show Try.prog.underlying _ = some (.int .i64) by kernel_rfl) t0
    obtain ⟨b, hb, _⟩ := DataW.trod_int (show Try.prog.underlying _ = some (.int .i64) by kernel_rfl) t1
    simp at ha hb
    exact ⟨a, b, by rw [ha, hb]⟩
set_option maxRecDepth 100000 in
theorem stays {W W' : World} {t : TypeId} (hr : Try.prog.readableRec t = true) (hrow : t < Try.prog.types.size) {v : Value} {d : DataW H} {ps : List MemPlace} {sp : Nat → Bool} (h : DataW.Trod enc Try.prog W 0 (fun _ => true) true t v d ps) (hb : Below W.heap.size W W') (hlt : ∀ x ∈ ps, x.block < W.heap.size) (hsp : ∀ x ∈ ps, sp x.block = true) :
    DataW.Trod enc Try.prog W' 0 sp true t v d ps := WideElems.Trod_stays laidOut_ hr hrow h (fun x hx => hb.same (hlt x hx)) hsp
end
set_option maxRecDepth 100000 in
theorem reads_lifted (os : Os) (started : os.Started) (H : Type) (enc : TypeId × Value → H) :
    ReturnsInHanded {} Try.checked os 10 .any (Rows.schoolReadsSpec.pre6 enc Try.prog Try.f10 Rows.schoolReadsRow.domain false) (Rows.schoolReadsSpec.post enc Try.prog Try.f10 false true false false) := by
  refine returnsInHanded_of_change (C := Try.checked) own_godebug started (by kernel_rfl) Try.func10
    (ChangeSpec.witness6 (enc := enc) (C := Try.checked) false ⟨#[], #[.agg #[.int .i64 0, .int .i64 0, .int .i64 0, .int .i64 0, .slice none 0 0], .slice none 0 0, .agg #[.int .i64 0, .int .i64 0]], []⟩ 8 (by kernel_rfl) (by kernel_rfl) (by kernel_rfl) (by kernel_rfl)) ?_
  intro W base args ds gs before hval0 hW hcnd _
  have hval : ∀ (j : Nat) t v, Try.f10.params[j]? = some t → args[j]? = some v → Value.okWide Try.prog W .any base t v := hval0
  have hW' := hW
  obtain ⟨p, q, hA0, hV, rfl, hfz, hnd⟩ := hW
  have hA : DataW.TrodAll enc Try.prog W 0 (fun _ => true) true Try.f10.params.toList args.toList ds p := hA0
  rw [Try.params10] at hA hval
  obtain ⟨v0, v1, v2, d0, d1, d2, p0, p1, p2, rfl, rfl, rfl, h0, h1, h2⟩ := trodAll_three hA
  obtain ⟨rfl, rfl⟩ := trodVars_none hV
  obtain ⟨s, rfl, hw0, hn0⟩ := arg_school (hval 0 24 v0 rfl rfl) h0
  obtain ⟨A, c, ch, rfl, hA1, hA2⟩ := arg_ints (hval 1 28 v1 rfl rfl) h1
  obtain ⟨n, kind, rfl⟩ := arg_pair (hval 2 87 v2 rfl rfl) h2
  clear hA0 hval0
  simp only [List.append_nil] at hW'
  refine (lwreads_any s A c ch n kind W hw0 hn0 hA1 hA2).mono fun e W' ⟨he, hb⟩ => ?_
  subst he
  have hlt : ∀ x ∈ p0 ++ p1 ++ p2, x.block < W.heap.size := fun x hx => hW'.lt x hx
  rw [List.append_assoc] at hW'
  exact ⟨_, rfl, row_end rfl hW' hb (trodAll_mk1 (t := 4) (shut_bool (by kernel_rfl) true))
    (trodAll_mk3 (stays (sp := fun b => decide (b < W.heap.size)) (by kernel_rfl) (of_decide_eq_true (by kernel_rfl)) h0 hb (fun x hx => hlt x (by simp [hx])) (fun x hx => decide_eq_true (hlt x (by simp [hx]))))
      (stays (sp := fun b => decide (b < W.heap.size)) (by kernel_rfl) (of_decide_eq_true (by kernel_rfl)) h1 hb (fun x hx => hlt x (by simp [hx])) (fun x hx => decide_eq_true (hlt x (by simp [hx]))))
      (stays (sp := fun b => decide (b < W.heap.size)) (by kernel_rfl) (of_decide_eq_true (by kernel_rfl)) h2 hb (fun x hx => hlt x (by simp [hx])) (fun x hx => decide_eq_true (hlt x (by simp [hx]))))) rfl⟩
theorem reads_holds : Rows.SchoolReadsSaid :=
  OpenClaim.holds_of_wide 10 Try.f10 rfl rfl rfl rfl rfl rfl rfl ⟨rfl, rfl, rfl, rfl, rfl⟩ rfl rfl rfl rfl rfl (by kernel_rfl) Try.func10 (by kernel_rfl)
    (of_decide_eq_true (by kernel_rfl)) (by unfold Func.isWrapper; first | (rw [if_pos (by decide +kernel)]; kernel_rfl) | (rw [if_neg (by decide +kernel)]; exact ⟨rfl, rfl⟩))
    (fun os started H enc _ => reads_lifted os started H enc)
end Go.Proofs.Ytidlmbajpbbilaa

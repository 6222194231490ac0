/- The rows' frame: dates, spans, turns. -/
import Derived.Test.YtfbnllmmoaialaaB20Fa
import Derived.Test.YtfbnllmmoaialaaB00Mem
import Derived.Test.YtfbnllmmoaialaaAi
import Derived.Test.YtfbnllmmoaialaaB13Ar
import Derived.Test.YtfbnllmmoaialaaAj
namespace Go.Proofs.Ytfbnllmmoaialaa
open Go.RowKit Go.ChangeShapes Go.WideShapes Go.ChangeAt Go.Deep
section
variable {H : Type} {enc : TypeId × Value → H}
set_option maxRecDepth 100000 in
theorem arg_sdate {W : World} {v : Value} {d : DataW H} {p : List MemPlace} {b0 : Nat} (hv : Value.okWide Try.prog W .any b0 75 v) (h : DataW.Trod enc Try.prog W 0 (fun _ => true) true 75 v d p) : ∃ a b c : Int, v = .agg #[.int .i64 a, .int .i64 b, .int .i64 c] := by
  obtain ⟨cs, rfl, hsz⟩ := okWide_struct Try.underlying75 hv
  obtain ⟨fuel, hf⟩ := h
  have hC : Try.prog.cellsOf 75 = 3 := by kernel_rfl
  obtain ⟨xs, h1, h2⟩ := open_nint Try.underlying75 (by kernel_rfl) (by kernel_rfl) hf (by simp [Value.cells]; omega)
  match xs, h1 with
  | [a, b, c], _ => exact ⟨a, b, c, by simp only [Value.cells] at h2; obtain ⟨l⟩ := cs; simp at h2; subst h2; rfl⟩
set_option maxRecDepth 100000 in
theorem arg_span {W : World} {v : Value} {d : DataW H} {p : List MemPlace} {b0 : Nat} (hv : Value.okWide Try.prog W .any b0 36 v) (h : DataW.Trod enc Try.prog W 0 (fun _ => true) true 36 v d p) : ∃ a b : Int, v = .agg #[.int .i64 a, .int .i64 b] := by
  obtain ⟨cs, rfl, hsz⟩ := okWide_struct Try.underlying36 hv
  obtain ⟨fuel, hf⟩ := h
  have hC : Try.prog.cellsOf 36 = 2 := by kernel_rfl
  obtain ⟨xs, h1, h2⟩ := open_nint Try.underlying36 (by kernel_rfl) (by kernel_rfl) hf (by simp [Value.cells]; omega)
  match xs, h1 with
  | [a, b], _ => exact ⟨a, b, by simp only [Value.cells] at h2; obtain ⟨l⟩ := cs; simp at h2; subst h2; rfl⟩
set_option maxRecDepth 100000 in
theorem arg_ldate {W : World} {v : Value} {d : DataW H} {p : List MemPlace} {b0 : Nat} (hv : Value.okWide Try.prog W .any b0 77 v) (h : DataW.Trod enc Try.prog W 0 (fun _ => true) true 77 v d p) : ∃ (a b c : Int) (k : Bool), v = .agg #[.int .i64 a, .int .i64 b, .int .i64 c, .bool k] := by
  obtain ⟨cs, rfl, hsz⟩ := okWide_struct Try.underlying77 hv
  obtain ⟨fuel, hf0⟩ := h
  have hC : Try.prog.cellsOf 77 = 4 := by kernel_rfl
  have hl : (Value.agg cs).cells.toList.length = 4 := by simp [Value.cells]; omega
  obtain ⟨m, hf⟩ := struct_cells Try.underlying77 (by kernel_rfl) hl hf0
  obtain ⟨v0, z0, c0, t0⟩ := hf 0 _ rfl
  obtain ⟨v1, z1, c1, t1⟩ := hf 1 _ rfl
  obtain ⟨v2, z2, c2, t2⟩ := hf 2 _ rfl
  obtain ⟨v3, z3, c3, t3⟩ := hf 3 _ rfl
  obtain ⟨a0, e0, _, _⟩ := DataW.trod_int (show Try.prog.underlying _ = some (.int .i64) by kernel_rfl) t0
  obtain ⟨a1, e1, _, _⟩ := DataW.trod_int (show Try.prog.underlying _ = some (.int .i64) by kernel_rfl) t1
  obtain ⟨a2, e2, _, _⟩ := DataW.trod_int (show Try.prog.underlying _ = some (.int .i64) by kernel_rfl) t2
  obtain ⟨a3, e3, _⟩ := DataW.trod_bool (show Try.prog.underlying _ = some .bool by kernel_rfl) t3
  simp only [List.cons.injEq, and_true] at e0 e1 e2 e3
  subst e0 e1 e2 e3
  refine ⟨a0, a1, a2, a3, ?_⟩
  simp only [Value.cells] at hl c0 c1 c2 c3
  obtain ⟨l⟩ := cs
  match l, hl with
  | [x0, x1, x2, x3], _ =>
    simp at c0 c1 c2 c3
    simp [c0, c1, c2, c3]
end
end Go.Proofs.Ytfbnllmmoaialaa
namespace Go.Proofs.Ytfbnllmmoaialaa
open Go.RowKit

theorem rin_any (n a b : Int) (w : World) : Calls Try.prog 65 #[.int .i64 n, .int .i64 a, .int .i64 b] w fun e w' => e = .returned (.bool (inB n a b)) ∧ w = w' := by
  by_cases h : a ≤ n
  · have h' : decide (a ≤ n) = true := by simpa using h
    by_cases h2 : n ≤ b
    · have h2' : decide (n ≤ b) = true := by simpa using h2
      go_enter Try.func65, Try.ntmps65
      go_wp2
      go_ret
      exact ⟨by simp [inB, h, h2], rfl⟩
    · have h2' : decide (n ≤ b) = false := by simpa using h2
      go_enter Try.func65, Try.ntmps65
      go_wp2
      go_ret
      exact ⟨by simp [inB, h2], rfl⟩
  · have h' : decide (a ≤ n) = false := by simpa using h
    go_enter Try.func65, Try.ntmps65
    go_wp2
    go_ret
    exact ⟨by simp [inB]; omega, rfl⟩
theorem rin_val {n a b : Int} {v : Bool} (h : inB n a b = v) (w : World) : Calls Try.prog 65 #[.int .i64 n, .int .i64 a, .int .i64 b] w fun e w' => e = .returned (.bool v) ∧ w = w' := h ▸ rin_any n a b w
theorem rday_any (n : Int) (w : World) : Calls Try.prog 28 #[.int .i64 n] w fun e w' => e = .returned (.bool (inB n 0 1000000)) ∧ w = w' := by
  go_enter Try.func28, Try.ntmps28
  go_wp2_with (go_at_call 65; refine (rin_any _ _ _ _).mono ?_; rintro _ _ ⟨rfl, rfl⟩)
  go_ret
  exact ⟨rfl, rfl⟩
theorem rcycle_any (l s : Int) (w : World) : Calls Try.prog 27 #[.agg #[.int .i64 l, .int .i64 s]] w fun e w' => e = .returned (.bool (cycB ⟨l, s⟩)) ∧ Below w.heap.size w w' := by
  cases h : inB l 1 64 with
  | true =>
    have hb := inB_iff.1 h
    have HW := Lib.hid (fun W => rin_val h W)
    have HT : Hid (cycB ⟨l, s⟩ = inB s 0 (l - 1)) := (by simp [cycB, h] : cycB ⟨l, s⟩ = inB s 0 (l - 1))
    clear h
    go_enter Try.func27, Try.ntmps27
    go_wp2_with (first | (go_at_call 65; (with_reducible refine (HW.out _).mono ?_); rintro _ _ ⟨rfl, rfl⟩) | (go_at_call 65; refine (rin_any _ _ _ _).mono ?_; rintro _ _ ⟨rfl, rfl⟩))
    go_ret
    exact ⟨ret_bool HT.out.symm, by (repeat (first | exact Below.refl _ _ | assumption | (refine Below.alloc ?_ (by first | omega | (simp; omega) | (simp; done)) _) | (refine Below.setCell ?_ (by first | omega | (simp; omega) | (simp; done)) _) | (refine Below.drew ?_) | (refine belowN ?_ _) | (refine Below.trans ?_ (Below.mono ‹Below _ _ _› (by first | omega | (simp; omega) | (simp; done))))))⟩
  | false =>
    have HW := Lib.hid (fun W => rin_val h W)
    have HT : Hid (cycB ⟨l, s⟩ = false) := (by simp [cycB, h] : cycB ⟨l, s⟩ = false)
    clear h
    go_enter Try.func27, Try.ntmps27
    go_wp2_with (go_at_call 65; (with_reducible refine (HW.out _).mono ?_); rintro _ _ ⟨rfl, rfl⟩)
    go_ret
    exact ⟨ret_bool HT.out.symm, by (repeat (first | exact Below.refl _ _ | assumption | (refine Below.alloc ?_ (by first | omega | (simp; omega) | (simp; done)) _) | (refine Below.setCell ?_ (by first | omega | (simp; omega) | (simp; done)) _) | (refine Below.drew ?_) | (refine belowN ?_ _) | (refine Below.trans ?_ (Below.mono ‹Below _ _ _› (by first | omega | (simp; omega) | (simp; done))))))⟩
theorem rsolar_any (e b u : Int) (w : World) : Calls Try.prog 44 #[.agg #[.int .i64 e, .int .i64 b, .int .i64 u]] w fun en w' => en = .returned (.bool (solB ⟨e, b, u⟩)) ∧ Below w.heap.size w w' := by
  cases h1 : inB e 0 100000 with
  | true =>
    have H1 := Lib.hid (fun W => rin_val h1 W)
    cases h2 : inB b 0 100000 with
    | true =>
      have H2 := Lib.hid (fun W => rin_val h2 W)
      have HT : Hid (solB ⟨e, b, u⟩ = inB u 0 100000) := (by simp [solB, h1, h2] : solB ⟨e, b, u⟩ = _)
      clear h1 h2
      by_cases hbb : b = e
      · subst hbb
        go_enter Try.func44, Try.ntmps44
        go_wp2_with (first | (go_at_call 65; (with_reducible refine (H1.out _).mono ?_); rintro _ _ ⟨rfl, rfl⟩) | (go_at_call 65; (with_reducible refine (H2.out _).mono ?_); rintro _ _ ⟨rfl, rfl⟩) | (go_at_call 65; refine (rin_any _ _ _ _).mono ?_; rintro _ _ ⟨rfl, rfl⟩))
        go_ret
        exact ⟨ret_bool HT.out.symm, by (repeat (first | exact Below.refl _ _ | assumption | (refine Below.alloc ?_ (by first | omega | (simp; omega) | (simp; done)) _) | (refine Below.setCell ?_ (by first | omega | (simp; omega) | (simp; done)) _) | (refine Below.drew ?_) | (refine belowN ?_ _) | (refine Below.trans ?_ (Below.mono ‹Below _ _ _› (by first | omega | (simp; omega) | (simp; done))))))⟩
      · go_enter Try.func44, Try.ntmps44
        go_wp2_with (first | (go_at_call 65; (with_reducible refine (H1.out _).mono ?_); rintro _ _ ⟨rfl, rfl⟩) | (go_at_call 65; (with_reducible refine (H2.out _).mono ?_); rintro _ _ ⟨rfl, rfl⟩) | (go_at_call 65; refine (rin_any _ _ _ _).mono ?_; rintro _ _ ⟨rfl, rfl⟩))
        go_ret
        exact ⟨ret_bool HT.out.symm, by (repeat (first | exact Below.refl _ _ | assumption | (refine Below.alloc ?_ (by first | omega | (simp; omega) | (simp; done)) _) | (refine Below.setCell ?_ (by first | omega | (simp; omega) | (simp; done)) _) | (refine Below.drew ?_) | (refine belowN ?_ _) | (refine Below.trans ?_ (Below.mono ‹Below _ _ _› (by first | omega | (simp; omega) | (simp; done))))))⟩
    | false =>
      have H2 := Lib.hid (fun W => rin_val h2 W)
      have HT : Hid (solB ⟨e, b, u⟩ = false) := (by simp [solB, h1, h2] : solB ⟨e, b, u⟩ = _)
      clear h1 h2
      go_enter Try.func44, Try.ntmps44
      go_wp2_with (first | (go_at_call 65; (with_reducible refine (H1.out _).mono ?_); rintro _ _ ⟨rfl, rfl⟩) | (go_at_call 65; (with_reducible refine (H2.out _).mono ?_); rintro _ _ ⟨rfl, rfl⟩) | (go_at_call 65; refine (rin_any _ _ _ _).mono ?_; rintro _ _ ⟨rfl, rfl⟩))
      go_ret
      exact ⟨ret_bool HT.out.symm, by (repeat (first | exact Below.refl _ _ | assumption | (refine Below.alloc ?_ (by first | omega | (simp; omega) | (simp; done)) _) | (refine Below.setCell ?_ (by first | omega | (simp; omega) | (simp; done)) _) | (refine Below.drew ?_) | (refine belowN ?_ _) | (refine Below.trans ?_ (Below.mono ‹Below _ _ _› (by first | omega | (simp; omega) | (simp; done))))))⟩
  | false =>
    have H1 := Lib.hid (fun W => rin_val h1 W)
    have HT : Hid (solB ⟨e, b, u⟩ = false) := (by simp [solB, h1] : solB ⟨e, b, u⟩ = _)
    clear h1
    go_enter Try.func44, Try.ntmps44
    go_wp2_with (first | (go_at_call 65; (with_reducible refine (H1.out _).mono ?_); rintro _ _ ⟨rfl, rfl⟩) | (go_at_call 65; (with_reducible refine (H2.out _).mono ?_); rintro _ _ ⟨rfl, rfl⟩) | (go_at_call 65; refine (rin_any _ _ _ _).mono ?_; rintro _ _ ⟨rfl, rfl⟩))
    go_ret
    exact ⟨ret_bool HT.out.symm, by (repeat (first | exact Below.refl _ _ | assumption | (refine Below.alloc ?_ (by first | omega | (simp; omega) | (simp; done)) _) | (refine Below.setCell ?_ (by first | omega | (simp; omega) | (simp; done)) _) | (refine Below.drew ?_) | (refine belowN ?_ _) | (refine Below.trans ?_ (Below.mono ‹Below _ _ _› (by first | omega | (simp; omega) | (simp; done))))))⟩
theorem rday_val {n : Int} {v : Bool} (h : inB n 0 1000000 = v) (w : World) : Calls Try.prog 28 #[.int .i64 n] w fun e w' => e = .returned (.bool v) ∧ w = w' := h ▸ rday_any n w
theorem rcycle_val {l s : Int} {v : Bool} (h : cycB ⟨l, s⟩ = v) (w : World) : Calls Try.prog 27 #[.agg #[.int .i64 l, .int .i64 s]] w fun e w' => e = .returned (.bool v) ∧ Below w.heap.size w w' := h ▸ rcycle_any l s w
theorem rsolar_val {e b u : Int} {v : Bool} (h : solB ⟨e, b, u⟩ = v) (w : World) : Calls Try.prog 44 #[.agg #[.int .i64 e, .int .i64 b, .int .i64 u]] w fun en w' => en = .returned (.bool v) ∧ Below w.heap.size w w' := h ▸ rsolar_any e b u w
theorem pos_tmod {l s d : Int} (h : cycB ⟨l, s⟩ = true) (h0 : 0 ≤ d) : (0 ≤ d - s → (d - s).tmod l = posI ⟨l, s⟩ d) ∧ (d - s < 0 → (d - s).tmod l = d - s ∧ d - s + l = posI ⟨l, s⟩ d) := by
  obtain ⟨⟨l1, l2⟩, s1, s2⟩ := cycB_iff.1 h
  simp only at l1 l2 s1 s2
  unfold posI
  simp only
  refine ⟨fun hp => ?_, fun hn => ⟨?_, ?_⟩⟩
  · rw [Int.tmod_eq_emod_of_nonneg hp, Int.add_emod_right]
  · have h1 := Int.neg_tmod (s - d) l
    rw [show -(s - d) = d - s by omega] at h1
    rw [h1, Int.tmod_eq_emod_of_nonneg (by omega), Int.emod_eq_of_lt (by omega) (by omega)]
    omega
  · rw [Int.emod_eq_of_lt (by omega) (by omega)]
theorem posI_bd {c : Cyc} (h : cycB c = true) (d : Int) : 0 ≤ posI c d ∧ posI c d ≤ c.l - 1 := by
  obtain ⟨⟨l1, l2⟩, s1, s2⟩ := cycB_iff.1 h
  have h1 := Int.emod_nonneg (d - c.s + c.l) (show c.l ≠ 0 by omega)
  have h2 := Int.emod_lt_of_pos (d - c.s + c.l) (show 0 < c.l by omega)
  unfold posI
  omega
theorem rposition_any (l s d : Int) (w : World) (h : cycB ⟨l, s⟩ = true) (h0 : 0 ≤ d) (h1 : d ≤ 2000000) : Calls Try.prog 29 #[.agg #[.int .i64 l, .int .i64 s], .int .i64 d] w fun e w' => e = .returned (.int .i64 (posI ⟨l, s⟩ d)) ∧ Below w.heap.size w w' := by
  obtain ⟨⟨l1, l2⟩, s1, s2⟩ := cycB_iff.1 h
  simp only at l1 l2 s1 s2
  obtain ⟨t1, t2⟩ := pos_tmod h h0
  have bd := posI_bd h d
  simp only at bd
  obtain ⟨x, hx⟩ : ∃ x, x = posI ⟨l, s⟩ d := ⟨_, rfl⟩
  rw [← hx] at t1 t2 bd ⊢
  have w1 : IntKind.i64.wrap (d - s) = d - s := IntWalk.i64_in _ ⟨by omega, by omega⟩
  have l0 : (l == 0) = false := by simp; omega
  clear hx h
  by_cases hp : 0 ≤ d - s
  · have e1 := t1 hp
    have e2 : IntKind.i64.wrap ((d - s).tmod l) = x := by rw [e1]; exact IntWalk.i64_in _ ⟨by omega, by omega⟩
    have c1 : decide (0 ≤ x) = true := by simp; omega
    have e5 : (d - s) % l = x := by rw [← e1, Int.tmod_eq_emod_of_nonneg hp]
    clear t1 t2 e2
    go_enter Try.func29, Try.ntmps29
    go_wp2
    go_ret
    exact ⟨rfl, by (repeat (first | exact Below.refl _ _ | assumption | (refine Below.alloc ?_ (by first | omega | (simp; omega) | (simp; done)) _) | (refine Below.setCell ?_ (by first | omega | (simp; omega) | (simp; done)) _) | (refine Below.drew ?_) | (refine belowN ?_ _) | (refine Below.trans ?_ (Below.mono ‹Below _ _ _› (by first | omega | (simp; omega) | (simp; done))))))⟩
  · obtain ⟨e1, e3⟩ := t2 (by omega)
    have e2 : IntKind.i64.wrap ((d - s).tmod l) = d - s := by rw [e1]; exact w1
    have c1 : decide (0 ≤ d - s) = false := by simp; omega
    have e4 : IntKind.i64.wrap (d - s + l) = x := by rw [e3]; exact IntWalk.i64_in _ ⟨by omega, by omega⟩
    have c2 : ¬ (0 ≤ d - s) := hp
    clear t1 t2 e2 e3
    go_enter Try.func29, Try.ntmps29
    go_wp2
    go_ret
    exact ⟨rfl, by (repeat (first | exact Below.refl _ _ | assumption | (refine Below.alloc ?_ (by first | omega | (simp; omega) | (simp; done)) _) | (refine Below.setCell ?_ (by first | omega | (simp; omega) | (simp; done)) _) | (refine Below.drew ?_) | (refine belowN ?_ _) | (refine Below.trans ?_ (Below.mono ‹Below _ _ _› (by first | omega | (simp; omega) | (simp; done))))))⟩
end Go.Proofs.Ytfbnllmmoaialaa
namespace Go.Proofs.Ytfbnllmmoaialaa
open Go.RowKit

set_option maxRecDepth 100000 in
set_option maxHeartbeats 4000000 in
theorem rlunar_any (d p f m y s l : Int) (w : World) : Calls Try.prog 49 #[.agg #[.int .i64 d, .int .i64 p, .int .i64 f, .int .i64 m, .int .i64 y, .int .i64 s, .int .i64 l]] w fun en w' => en = .returned (.bool (lunB ⟨d, p, f, m, y, s, l⟩)) ∧ Below w.heap.size w w' := by
  cases h1 : inB p 1 100000 with
  | false =>
    have H1 := Lib.hid (fun W => rin_val h1 W)
    have HT : Hid (lunB ⟨d, p, f, m, y, s, l⟩ = false) := (by simp [lunB, h1] : lunB ⟨d, p, f, m, y, s, l⟩ = false)
    clear h1
    go_enter Try.func49, Try.ntmps49
    go_wp2_with (first | (go_at_call 65; (with_reducible refine (H1.out _).mono ?_); rintro _ _ ⟨rfl, rfl⟩) | (go_at_call 65; (with_reducible refine (H2.out _).mono ?_); rintro _ _ ⟨rfl, rfl⟩) | (go_at_call 65; (with_reducible refine (H3.out _).mono ?_); rintro _ _ ⟨rfl, rfl⟩) | (go_at_call 65; (with_reducible refine (H4.out _).mono ?_); rintro _ _ ⟨rfl, rfl⟩) | (go_at_call 65; (with_reducible refine (H5.out _).mono ?_); rintro _ _ ⟨rfl, rfl⟩) | (go_at_call 65; (with_reducible refine (H6.out _).mono ?_); rintro _ _ ⟨rfl, rfl⟩) | (go_at_call 65; (with_reducible refine (H7.out _).mono ?_); rintro _ _ ⟨rfl, rfl⟩))
    go_ret
    exact ⟨ret_bool HT.out.symm, by (repeat (first | exact Below.refl _ _ | assumption | (refine Below.alloc ?_ (by first | omega | (simp; omega) | (simp; done)) _) | (refine Below.setCell ?_ (by first | omega | (simp; omega) | (simp; done)) _) | (refine Below.drew ?_) | (refine belowN ?_ _) | (refine Below.trans ?_ (Below.mono ‹Below _ _ _› (by first | omega | (simp; omega) | (simp; done))))))⟩
  | true =>
    have H1 := Lib.hid (fun W => rin_val h1 W)
    have b1 := inB_iff.1 h1
    cases h2 : inB d (27 * p) (31 * p) with
    | false =>
      have H2 := Lib.hid (fun W => rin_val h2 W)
      have HT : Hid (lunB ⟨d, p, f, m, y, s, l⟩ = false) := (by simp [lunB, h1, h2] : lunB ⟨d, p, f, m, y, s, l⟩ = false)
      clear h1 h2
      go_enter Try.func49, Try.ntmps49
      go_wp2_with (first | (go_at_call 65; (with_reducible refine (H1.out _).mono ?_); rintro _ _ ⟨rfl, rfl⟩) | (go_at_call 65; (with_reducible refine (H2.out _).mono ?_); rintro _ _ ⟨rfl, rfl⟩) | (go_at_call 65; (with_reducible refine (H3.out _).mono ?_); rintro _ _ ⟨rfl, rfl⟩) | (go_at_call 65; (with_reducible refine (H4.out _).mono ?_); rintro _ _ ⟨rfl, rfl⟩) | (go_at_call 65; (with_reducible refine (H5.out _).mono ?_); rintro _ _ ⟨rfl, rfl⟩) | (go_at_call 65; (with_reducible refine (H6.out _).mono ?_); rintro _ _ ⟨rfl, rfl⟩) | (go_at_call 65; (with_reducible refine (H7.out _).mono ?_); rintro _ _ ⟨rfl, rfl⟩))
      go_ret
      exact ⟨ret_bool HT.out.symm, by (repeat (first | exact Below.refl _ _ | assumption | (refine Below.alloc ?_ (by first | omega | (simp; omega) | (simp; done)) _) | (refine Below.setCell ?_ (by first | omega | (simp; omega) | (simp; done)) _) | (refine Below.drew ?_) | (refine belowN ?_ _) | (refine Below.trans ?_ (Below.mono ‹Below _ _ _› (by first | omega | (simp; omega) | (simp; done))))))⟩
    | true =>
      have H2 := Lib.hid (fun W => rin_val h2 W)
      cases h3 : inB f 0 (p - 1) with
      | false =>
        have H3 := Lib.hid (fun W => rin_val h3 W)
        have HT : Hid (lunB ⟨d, p, f, m, y, s, l⟩ = false) := (by simp [lunB, h1, h2, h3] : lunB ⟨d, p, f, m, y, s, l⟩ = false)
        clear h1 h2 h3
        go_enter Try.func49, Try.ntmps49
        go_wp2_with (first | (go_at_call 65; (with_reducible refine (H1.out _).mono ?_); rintro _ _ ⟨rfl, rfl⟩) | (go_at_call 65; (with_reducible refine (H2.out _).mono ?_); rintro _ _ ⟨rfl, rfl⟩) | (go_at_call 65; (with_reducible refine (H3.out _).mono ?_); rintro _ _ ⟨rfl, rfl⟩) | (go_at_call 65; (with_reducible refine (H4.out _).mono ?_); rintro _ _ ⟨rfl, rfl⟩) | (go_at_call 65; (with_reducible refine (H5.out _).mono ?_); rintro _ _ ⟨rfl, rfl⟩) | (go_at_call 65; (with_reducible refine (H6.out _).mono ?_); rintro _ _ ⟨rfl, rfl⟩) | (go_at_call 65; (with_reducible refine (H7.out _).mono ?_); rintro _ _ ⟨rfl, rfl⟩))
        go_ret
        exact ⟨ret_bool HT.out.symm, by (repeat (first | exact Below.refl _ _ | assumption | (refine Below.alloc ?_ (by first | omega | (simp; omega) | (simp; done)) _) | (refine Below.setCell ?_ (by first | omega | (simp; omega) | (simp; done)) _) | (refine Below.drew ?_) | (refine belowN ?_ _) | (refine Below.trans ?_ (Below.mono ‹Below _ _ _› (by first | omega | (simp; omega) | (simp; done))))))⟩
      | true =>
        have H3 := Lib.hid (fun W => rin_val h3 W)
        cases h4 : inB y 1 100000 with
        | false =>
          have H4 := Lib.hid (fun W => rin_val h4 W)
          have HT : Hid (lunB ⟨d, p, f, m, y, s, l⟩ = false) := (by simp [lunB, h1, h2, h3, h4] : lunB ⟨d, p, f, m, y, s, l⟩ = false)
          clear h1 h2 h3 h4
          go_enter Try.func49, Try.ntmps49
          go_wp2_with (first | (go_at_call 65; (with_reducible refine (H1.out _).mono ?_); rintro _ _ ⟨rfl, rfl⟩) | (go_at_call 65; (with_reducible refine (H2.out _).mono ?_); rintro _ _ ⟨rfl, rfl⟩) | (go_at_call 65; (with_reducible refine (H3.out _).mono ?_); rintro _ _ ⟨rfl, rfl⟩) | (go_at_call 65; (with_reducible refine (H4.out _).mono ?_); rintro _ _ ⟨rfl, rfl⟩) | (go_at_call 65; (with_reducible refine (H5.out _).mono ?_); rintro _ _ ⟨rfl, rfl⟩) | (go_at_call 65; (with_reducible refine (H6.out _).mono ?_); rintro _ _ ⟨rfl, rfl⟩) | (go_at_call 65; (with_reducible refine (H7.out _).mono ?_); rintro _ _ ⟨rfl, rfl⟩))
          go_ret
          exact ⟨ret_bool HT.out.symm, by (repeat (first | exact Below.refl _ _ | assumption | (refine Below.alloc ?_ (by first | omega | (simp; omega) | (simp; done)) _) | (refine Below.setCell ?_ (by first | omega | (simp; omega) | (simp; done)) _) | (refine Below.drew ?_) | (refine belowN ?_ _) | (refine Below.trans ?_ (Below.mono ‹Below _ _ _› (by first | omega | (simp; omega) | (simp; done))))))⟩
        | true =>
          have H4 := Lib.hid (fun W => rin_val h4 W)
          have b4 := inB_iff.1 h4
          cases h5 : inB m (12 * y) (13 * y) with
          | false =>
            have H5 := Lib.hid (fun W => rin_val h5 W)
            have HT : Hid (lunB ⟨d, p, f, m, y, s, l⟩ = false) := (by simp [lunB, h1, h2, h3, h4, h5] : lunB ⟨d, p, f, m, y, s, l⟩ = false)
            clear h1 h2 h3 h4 h5
            go_enter Try.func49, Try.ntmps49
            go_wp2_with (first | (go_at_call 65; (with_reducible refine (H1.out _).mono ?_); rintro _ _ ⟨rfl, rfl⟩) | (go_at_call 65; (with_reducible refine (H2.out _).mono ?_); rintro _ _ ⟨rfl, rfl⟩) | (go_at_call 65; (with_reducible refine (H3.out _).mono ?_); rintro _ _ ⟨rfl, rfl⟩) | (go_at_call 65; (with_reducible refine (H4.out _).mono ?_); rintro _ _ ⟨rfl, rfl⟩) | (go_at_call 65; (with_reducible refine (H5.out _).mono ?_); rintro _ _ ⟨rfl, rfl⟩) | (go_at_call 65; (with_reducible refine (H6.out _).mono ?_); rintro _ _ ⟨rfl, rfl⟩) | (go_at_call 65; (with_reducible refine (H7.out _).mono ?_); rintro _ _ ⟨rfl, rfl⟩))
            go_ret
            exact ⟨ret_bool HT.out.symm, by (repeat (first | exact Below.refl _ _ | assumption | (refine Below.alloc ?_ (by first | omega | (simp; omega) | (simp; done)) _) | (refine Below.setCell ?_ (by first | omega | (simp; omega) | (simp; done)) _) | (refine Below.drew ?_) | (refine belowN ?_ _) | (refine Below.trans ?_ (Below.mono ‹Below _ _ _› (by first | omega | (simp; omega) | (simp; done))))))⟩
          | true =>
            have H5 := Lib.hid (fun W => rin_val h5 W)
            cases h6 : inB s 0 (y - 1) with
            | false =>
              have H6 := Lib.hid (fun W => rin_val h6 W)
              have HT : Hid (lunB ⟨d, p, f, m, y, s, l⟩ = false) := (by simp [lunB, h1, h2, h3, h4, h5, h6] : lunB ⟨d, p, f, m, y, s, l⟩ = false)
              clear h1 h2 h3 h4 h5 h6
              go_enter Try.func49, Try.ntmps49
              go_wp2_with (first | (go_at_call 65; (with_reducible refine (H1.out _).mono ?_); rintro _ _ ⟨rfl, rfl⟩) | (go_at_call 65; (with_reducible refine (H2.out _).mono ?_); rintro _ _ ⟨rfl, rfl⟩) | (go_at_call 65; (with_reducible refine (H3.out _).mono ?_); rintro _ _ ⟨rfl, rfl⟩) | (go_at_call 65; (with_reducible refine (H4.out _).mono ?_); rintro _ _ ⟨rfl, rfl⟩) | (go_at_call 65; (with_reducible refine (H5.out _).mono ?_); rintro _ _ ⟨rfl, rfl⟩) | (go_at_call 65; (with_reducible refine (H6.out _).mono ?_); rintro _ _ ⟨rfl, rfl⟩) | (go_at_call 65; (with_reducible refine (H7.out _).mono ?_); rintro _ _ ⟨rfl, rfl⟩))
              go_ret
              exact ⟨ret_bool HT.out.symm, by (repeat (first | exact Below.refl _ _ | assumption | (refine Below.alloc ?_ (by first | omega | (simp; omega) | (simp; done)) _) | (refine Below.setCell ?_ (by first | omega | (simp; omega) | (simp; done)) _) | (refine Below.drew ?_) | (refine belowN ?_ _) | (refine Below.trans ?_ (Below.mono ‹Below _ _ _› (by first | omega | (simp; omega) | (simp; done))))))⟩
            | true =>
              have H6 := Lib.hid (fun W => rin_val h6 W)
              cases h7 : inB l 1 12 with
              | false =>
                have H7 := Lib.hid (fun W => rin_val h7 W)
                have HT : Hid (lunB ⟨d, p, f, m, y, s, l⟩ = false) := (by simp [lunB, h1, h2, h3, h4, h5, h6, h7] : lunB ⟨d, p, f, m, y, s, l⟩ = false)
                clear h1 h2 h3 h4 h5 h6 h7
                go_enter Try.func49, Try.ntmps49
                go_wp2_with (first | (go_at_call 65; (with_reducible refine (H1.out _).mono ?_); rintro _ _ ⟨rfl, rfl⟩) | (go_at_call 65; (with_reducible refine (H2.out _).mono ?_); rintro _ _ ⟨rfl, rfl⟩) | (go_at_call 65; (with_reducible refine (H3.out _).mono ?_); rintro _ _ ⟨rfl, rfl⟩) | (go_at_call 65; (with_reducible refine (H4.out _).mono ?_); rintro _ _ ⟨rfl, rfl⟩) | (go_at_call 65; (with_reducible refine (H5.out _).mono ?_); rintro _ _ ⟨rfl, rfl⟩) | (go_at_call 65; (with_reducible refine (H6.out _).mono ?_); rintro _ _ ⟨rfl, rfl⟩) | (go_at_call 65; (with_reducible refine (H7.out _).mono ?_); rintro _ _ ⟨rfl, rfl⟩))
                go_ret
                exact ⟨ret_bool HT.out.symm, by (repeat (first | exact Below.refl _ _ | assumption | (refine Below.alloc ?_ (by first | omega | (simp; omega) | (simp; done)) _) | (refine Below.setCell ?_ (by first | omega | (simp; omega) | (simp; done)) _) | (refine Below.drew ?_) | (refine belowN ?_ _) | (refine Below.trans ?_ (Below.mono ‹Below _ _ _› (by first | omega | (simp; omega) | (simp; done))))))⟩
              | true =>
                have H7 := Lib.hid (fun W => rin_val h7 W)
                have HT : Hid (lunB ⟨d, p, f, m, y, s, l⟩ = true) := (by simp [lunB, h1, h2, h3, h4, h5, h6, h7] : lunB ⟨d, p, f, m, y, s, l⟩ = true)
                clear h1 h2 h3 h4 h5 h6 h7
                go_enter Try.func49, Try.ntmps49
                go_wp2_with (first | (go_at_call 65; (with_reducible refine (H1.out _).mono ?_); rintro _ _ ⟨rfl, rfl⟩) | (go_at_call 65; (with_reducible refine (H2.out _).mono ?_); rintro _ _ ⟨rfl, rfl⟩) | (go_at_call 65; (with_reducible refine (H3.out _).mono ?_); rintro _ _ ⟨rfl, rfl⟩) | (go_at_call 65; (with_reducible refine (H4.out _).mono ?_); rintro _ _ ⟨rfl, rfl⟩) | (go_at_call 65; (with_reducible refine (H5.out _).mono ?_); rintro _ _ ⟨rfl, rfl⟩) | (go_at_call 65; (with_reducible refine (H6.out _).mono ?_); rintro _ _ ⟨rfl, rfl⟩) | (go_at_call 65; (with_reducible refine (H7.out _).mono ?_); rintro _ _ ⟨rfl, rfl⟩))
                go_ret
                exact ⟨ret_bool HT.out.symm, by (repeat (first | exact Below.refl _ _ | assumption | (refine Below.alloc ?_ (by first | omega | (simp; omega) | (simp; done)) _) | (refine Below.setCell ?_ (by first | omega | (simp; omega) | (simp; done)) _) | (refine Below.drew ?_) | (refine belowN ?_ _) | (refine Below.trans ?_ (Below.mono ‹Below _ _ _› (by first | omega | (simp; omega) | (simp; done))))))⟩
theorem rlunar_val {d p f m y s l : Int} {v : Bool} (h : lunB ⟨d, p, f, m, y, s, l⟩ = v) (w : World) : Calls Try.prog 49 #[.agg #[.int .i64 d, .int .i64 p, .int .i64 f, .int .i64 m, .int .i64 y, .int .i64 s, .int .i64 l]] w fun en w' => en = .returned (.bool v) ∧ Below w.heap.size w w' := h ▸ rlunar_any d p f m y s l w
theorem rbegins_any (d p f m y s l n : Int) (w : World) (ok : LunOk ⟨d, p, f, m, y, s, l⟩) (n0 : 0 ≤ n) (n1 : n ≤ 3000000) : Calls Try.prog 88 #[.agg #[.int .i64 d, .int .i64 p, .int .i64 f, .int .i64 m, .int .i64 y, .int .i64 s, .int .i64 l], .int .i64 n] w fun en w' => en = .returned (.int .i64 (BI ⟨d, p, f, m, y, s, l⟩ n)) ∧ Below w.heap.size w w' := by
  obtain ⟨⟨b0, b1⟩, b2, b3⟩ := BI_bd ok n0 n1
  obtain ⟨⟨p0, p1⟩, ⟨d0, d1⟩, ⟨f0, f1⟩, ⟨y0, y1⟩, ⟨m0, m1⟩, ⟨s0, s1⟩, -⟩ := ok
  simp only at p0 p1 d0 d1 f0 f1 y0 y1 m0 m1 s0 s1 b0 b1
  have hd : BI ⟨d, p, f, m, y, s, l⟩ n = (d * n + f) / p := rfl
  obtain ⟨x, hx⟩ : ∃ x, x = BI ⟨d, p, f, m, y, s, l⟩ n := ⟨_, rfl⟩
  rw [← hx] at hd b2 b3 ⊢
  have w1 : IntKind.i64.wrap (d * n) = d * n := IntWalk.i64_in _ ⟨by omega, by omega⟩
  have w2 : IntKind.i64.wrap (d * n + f) = d * n + f := IntWalk.i64_in _ ⟨by omega, by omega⟩
  have w3 : IntKind.i64.wrap ((d * n + f).tdiv p) = x := by rw [Int.tdiv_eq_ediv_of_nonneg (by omega), ← hd]; exact IntWalk.i64_in _ ⟨by omega, by omega⟩
  have z0 : (p == 0) = false := by simp; omega
  clear hd hx
  go_enter Try.func88, Try.ntmps88
  go_wp2
  go_ret
  exact ⟨rfl, by (repeat (first | exact Below.refl _ _ | assumption | (refine Below.alloc ?_ (by first | omega | (simp; omega) | (simp; done)) _) | (refine Below.setCell ?_ (by first | omega | (simp; omega) | (simp; done)) _) | (refine Below.drew ?_) | (refine belowN ?_ _) | (refine Below.trans ?_ (Below.mono ‹Below _ _ _› (by first | omega | (simp; omega) | (simp; done))))))⟩
theorem rfirst_any (d p f m y s l n : Int) (w : World) (ok : LunOk ⟨d, p, f, m, y, s, l⟩) (n0 : 0 ≤ n) (n1 : n ≤ 3000000) : Calls Try.prog 87 #[.agg #[.int .i64 d, .int .i64 p, .int .i64 f, .int .i64 m, .int .i64 y, .int .i64 s, .int .i64 l], .int .i64 n] w fun en w' => en = .returned (.int .i64 (FI ⟨d, p, f, m, y, s, l⟩ n)) ∧ Below w.heap.size w w' := by
  obtain ⟨⟨b0, b1⟩, b2, b3⟩ := FI_bd ok n0 n1
  obtain ⟨⟨p0, p1⟩, ⟨d0, d1⟩, ⟨f0, f1⟩, ⟨y0, y1⟩, ⟨m0, m1⟩, ⟨s0, s1⟩, -⟩ := ok
  simp only at p0 p1 d0 d1 f0 f1 y0 y1 m0 m1 s0 s1 b0 b1
  have hd : FI ⟨d, p, f, m, y, s, l⟩ n = (m * n + s) / y := rfl
  obtain ⟨x, hx⟩ : ∃ x, x = FI ⟨d, p, f, m, y, s, l⟩ n := ⟨_, rfl⟩
  rw [← hx] at hd b2 b3 ⊢
  have w1 : IntKind.i64.wrap (m * n) = m * n := IntWalk.i64_in _ ⟨by omega, by omega⟩
  have w2 : IntKind.i64.wrap (m * n + s) = m * n + s := IntWalk.i64_in _ ⟨by omega, by omega⟩
  have w3 : IntKind.i64.wrap ((m * n + s).tdiv y) = x := by rw [Int.tdiv_eq_ediv_of_nonneg (by omega), ← hd]; exact IntWalk.i64_in _ ⟨by omega, by omega⟩
  have z0 : (y == 0) = false := by simp; omega
  clear hd hx
  go_enter Try.func87, Try.ntmps87
  go_wp2
  go_ret
  exact ⟨rfl, by (repeat (first | exact Below.refl _ _ | assumption | (refine Below.alloc ?_ (by first | omega | (simp; omega) | (simp; done)) _) | (refine Below.setCell ?_ (by first | omega | (simp; omega) | (simp; done)) _) | (refine Below.drew ?_) | (refine belowN ?_ _) | (refine Below.trans ?_ (Below.mono ‹Below _ _ _› (by first | omega | (simp; omega) | (simp; done))))))⟩
end Go.Proofs.Ytfbnllmmoaialaa
namespace Go.Proofs.Ytfbnllmmoaialaa

theorem sumL_sum (l : List Int) : sumL l = l.sum := rfl
theorem walkM_is : ∀ (l : List Int) (m d : Int) (k : Nat) (hk : k < l.length), (∀ x ∈ l, 0 ≤ x) → 1 ≤ d → d ≤ l[k] → walkM l m ((l.take k).sum + d) = (m + k, d)
  | [], _, _, _, hk, _, _, _ => by simp at hk
  | n :: l, m, d, 0, _, _, h1, h2 => by
    have h2' : d ≤ n := by simpa using h2
    rw [List.take_zero, List.sum_nil, Int.zero_add, walkM, if_pos h2']
    simp
  | n :: l, m, d, k + 1, hk, hn, h1, h2 => by
    have hs : 0 ≤ (l.take k).sum := by
      have : ∀ l : List Int, (∀ x ∈ l, 0 ≤ x) → 0 ≤ l.sum := by
        intro l
        induction l with
        | nil => intro; simp
        | cons x l ih => intro h; simp only [List.sum_cons]; have := ih (fun y hy => h y (by simp [hy])); have := h x (by simp); omega
      exact this _ fun x hx => hn x (by simp [List.mem_of_mem_take hx])
    rw [List.take_succ_cons, List.sum_cons, walkM, if_neg (by omega), show n + (l.take k).sum + d - n = (l.take k).sum + d by omega, walkM_is l (m + 1) d k (by simpa using hk) (fun x hx => hn x (by simp [hx])) h1 (by simpa using h2)]
    rw [show m + 1 + (k : Int) = m + ((k + 1 : Nat) : Int) by omega]
theorem take_sum_le : ∀ (l : List Int) (k : Nat) (hk : k < l.length), (∀ x ∈ l, 0 ≤ x) → (l.take k).sum + l[k] ≤ l.sum
  | n :: l, 0, _, h => by
    have : ∀ l : List Int, (∀ x ∈ l, 0 ≤ x) → 0 ≤ l.sum := by
      intro l
      induction l with
      | nil => intro; simp
      | cons x l ih => intro h; simp only [List.sum_cons]; have := ih (fun y hy => h y (by simp [hy])); have := h x (by simp); omega
    have := this l (fun x hx => h x (by simp [hx]))
    simp; omega
  | n :: l, k + 1, hk, h => by
    have := take_sum_le l k (by simpa using hk) (fun x hx => h x (by simp [hx]))
    simp only [List.take_succ_cons, List.sum_cons, List.getElem_cons_succ]; omega
theorem extra_bd2 {r : Sol} (ok : SolOk r) {y : Int} (y0 : 0 ≤ y) : 0 ≤ extraN r y ∧ extraN r y ≤ 1 := by rw [extraN_eq ok y0]; split <;> omega
theorem monL_nn {x : Int} (x0 : 0 ≤ x) : ∀ y ∈ monL x, 0 ≤ y := by
  intro y hy
  simp only [monL, List.mem_cons, List.not_mem_nil, or_false] at hy
  rcases hy with rfl | rfl | rfl | rfl | rfl | rfl | rfl | rfl | rfl | rfl | rfl | rfl <;> omega
theorem take_nn {l : List Int} (h : ∀ x ∈ l, 0 ≤ x) (k : Nat) : 0 ≤ (l.take k).sum := by
  have : ∀ l : List Int, (∀ x ∈ l, 0 ≤ x) → 0 ≤ l.sum := by
    intro l
    induction l with
    | nil => intro; simp
    | cons x l ih => intro h; simp only [List.sum_cons]; have := ih (fun y hy => h y (by simp [hy])); have := h x (by simp); omega
  exact this _ fun x hx => h x (List.mem_of_mem_take hx)
/-- a date is the date of its day -/
theorem solI_is {r : Sol} (ok : SolOk r) {y k : Nat} {d day : Int} (hy : y ≤ 2740) (hk : k < (monL (extraN r y)).length) (h1 : 1 ≤ d) (h2 : d ≤ (monL (extraN r y))[k]) (hd : begI r y + ((monL (extraN r y)).take k).sum + d - 1 = day) : solI r day = ⟨(y : Int), (k : Int) + 1, d⟩ := by
  have hx := extra_bd2 ok (y := (y : Int)) (by omega)
  have hnn := monL_nn hx.1
  have ht := take_sum_le _ k hk hnn
  have h0 := take_nn hnn k
  rw [monL_sum] at ht
  have he : extraN r y = begI r ((y : Int) + 1) - begI r y - 365 := rfl
  have hyi : yearI r day = y := yearI_is ok (by omega) (by omega) hy
  unfold solI
  rw [hyi, show day - begI r y + 1 = ((monL (extraN r y)).take k).sum + d by omega, walkM_is _ 1 d k hk hnn h1 h2]
  simp only [SDate.mk.injEq, true_and, and_true]
  omega
/-- the next date -/
def nextS (a b : SDate) : Prop := (b.d = a.d + 1 ∧ b.m = a.m ∧ b.y = a.y) ∨ (b.d = 1 ∧ b.m = a.m + 1 ∧ b.y = a.y ∧ 28 ≤ a.d) ∨ (b.d = 1 ∧ b.m = 1 ∧ b.y = a.y + 1 ∧ a.m = 12 ∧ a.d = 31)
theorem sol_back {r : Sol} (ok : SolOk r) {day : Int} (d0 : 0 ≤ day) (d1 : day ≤ 999999) : dayR r (solI r day) = (day, 0) ∧ nextS (solI r day) (solI r (day + 1)) ∧ 0 ≤ (solI r day).y := by
  have hsp := solI_spec ok d0 (by omega : day ≤ 1000000)
  have hys := yearI_spec ok d0 (by omega : day ≤ 1000000)
  generalize yearI r day = y at hsp hys
  obtain ⟨k, hk2, e1, e2, e3, e4, e5'⟩ := hsp
  obtain ⟨g1, g2, g3⟩ := hys
  have hx := extra_bd2 ok (y := (y : Int)) (by omega)
  have hm := monL_bd hx.1 hx.2 hk2
  have hk12 : k < 12 := hk2
  obtain ⟨a, ha⟩ : ∃ a, a = solI r day := ⟨_, rfl⟩
  rw [← ha] at e1 e2 e3 e4 e5' ⊢
  obtain ⟨ay, am, ad⟩ := a
  simp only at e1 e2 e3 e4 e5'
  subst e1 e2
  refine ⟨?_, ?_, by simp only; omega⟩
  · unfold dayR
    have b1 : inB ((y : Int)) 0 4000 = true := inB_iff.2 (by omega)
    have b2 : inB ((k : Int) + 1) 1 12 = true := inB_iff.2 (by omega)
    have ek : ((k : Int) + 1 - 1).toNat = k := by omega
    have b3 : inB ad 1 ((monL (extraN r y)).getD k 0) = true := inB_iff.2 ⟨e4, by rw [List.getD_eq_getElem?_getD, List.getElem?_eq_getElem hk2]; exact e5'⟩
    have es : begI r y + ad - 1 + sumL ((monL (extraN r y)).take k) = day := by rw [sumL_sum]; omega
    simp only [solB_iff.2 ok, b1, b2, ek, b3, es, if_true, inB_iff.2 (show (0 : Int) ≤ day ∧ day ≤ 1000000 by omega)]
  · by_cases c1 : ad < (monL (extraN r y))[k]
    · rw [solI_is ok (day := day + 1) (d := ad + 1) (by omega) hk2 (by omega) (by omega) (by omega)]
      exact .inl ⟨rfl, rfl, rfl⟩
    · by_cases c2 : k < 11
      · have hk3 : k + 1 < (monL (extraN r y)).length := by show k + 1 < 12; omega
        have hm2 := monL_bd hx.1 hx.2 hk3
        have hts : ((monL (extraN r y)).take (k + 1)).sum = ((monL (extraN r y)).take k).sum + (monL (extraN r y))[k] := by
          rw [List.take_add_one, List.getElem?_eq_getElem hk2, List.sum_append]; simp; rfl
        rw [solI_is ok (day := day + 1) (k := k + 1) (d := 1) (by omega) hk3 (by omega) (by omega) (by rw [hts]; omega)]
        exact .inr (.inl ⟨rfl, by simp only; omega, rfl, by simp only; omega⟩)
      · obtain rfl : k = 11 := by omega
        have hx2 := extra_bd2 ok (y := ((y + 1 : Nat) : Int)) (by omega)
        have hk4 : 0 < (monL (extraN r ((y + 1 : Nat) : Int))).length := by show 0 < 12; omega
        have hm3 := monL_bd hx2.1 hx2.2 hk4
        have h31 : (monL (extraN r y))[11] = 31 := rfl
        have hsum : ((monL (extraN r y)).take 11).sum + 31 = 365 + extraN r y := by rw [← monL_sum]; simp [monL]; omega
        have he : extraN r y = begI r ((y : Int) + 1) - begI r y - 365 := rfl
        rw [solI_is ok (day := day + 1) (y := y + 1) (k := 0) (d := 1) (by omega) hk4 (by omega) (by omega) (by
          have : begI r ((y + 1 : Nat) : Int) = begI r ((y : Int) + 1) := by congr 1
          rw [this]; simp only [List.take_zero, List.sum_nil]; omega)]
        exact .inr (.inr ⟨rfl, by simp, by simp, by simp, by simp only; omega⟩)
/-! by the moon -/
def nextM (a b : LDate) : Prop := (b.d = a.d + 1 ∧ b.m = a.m ∧ b.y = a.y ∧ b.k = a.k) ∨ (b.d = 1 ∧ b.m = a.m + 1 ∧ b.y = a.y ∧ b.k = false ∧ 27 ≤ a.d) ∨ (b.d = 1 ∧ b.m = a.m ∧ b.y = a.y ∧ b.k = true ∧ a.k = false ∧ 27 ≤ a.d) ∨ (b.d = 1 ∧ b.m = 1 ∧ b.y = a.y + 1 ∧ b.k = false ∧ a.m = 12 ∧ 27 ≤ a.d)
/-- the name of a month of a year, by its number in it -/
def nameM (r : Lun) (y m0 : Int) : Int × Bool := if longM r y && decide (r.l < m0) then (m0 - 1, m0 == r.l + 1) else (m0, false)
theorem moonI_eq (r : Lun) (d : Int) : moonI r d = ⟨yI r d, (nameM r (yI r d) (mI r d - FI r (yI r d) + 1)).1, d - BI r (mI r d) + 1, (nameM r (yI r d) (mI r d - FI r (yI r d) + 1)).2⟩ := by
  unfold moonI nameM
  rw [show m0I r d = mI r d - FI r (yI r d) + 1 from rfl]
  split <;> rfl
theorem BI_ge {r : Lun} (ok : LunOk r) {n : Int} (h : 0 ≤ n) : 27 * n ≤ BI r n := by
  obtain ⟨p, d, f, y, m, s, l⟩ := ok
  unfold BI atW
  rw [Int.le_ediv_iff_mul_le (by omega)]
  have := Int.mul_le_mul_of_nonneg_left d.1 h
  have e : n * (27 * r.p) = 27 * n * r.p := by rw [← Int.mul_assoc, Int.mul_comm n 27]
  have e2 : n * r.d = r.d * n := Int.mul_comm _ _
  omega
theorem FI_ge {r : Lun} (ok : LunOk r) {n : Int} (h : 0 ≤ n) : 12 * n ≤ FI r n := by
  obtain ⟨p, d, f, y, m, s, l⟩ := ok
  unfold FI atW
  rw [Int.le_ediv_iff_mul_le (by omega)]
  have := Int.mul_le_mul_of_nonneg_left m.1 h
  have e : n * (12 * r.y) = 12 * n * r.y := by rw [← Int.mul_assoc, Int.mul_comm n 12]
  have e2 : n * r.m = r.m * n := Int.mul_comm _ _
  omega
theorem name_bd {r : Lun} (ok : LunOk r) {y m0 : Int} (h1 : 1 ≤ m0) (h2 : m0 ≤ FI r (y + 1) - FI r y) : 1 ≤ (nameM r y m0).1 ∧ (nameM r y m0).1 ≤ 12 ∧ ((nameM r y m0).2 = true → (nameM r y m0).1 = r.l ∧ longM r y = true) := by
  have h4 := FI_step ok y
  have h5 := ok.l
  unfold nameM
  split
  · rename_i h
    simp only [Bool.and_eq_true, decide_eq_true_eq] at h
    obtain ⟨h6, h7⟩ := h
    have h8 := longM_iff.1 h6
    refine ⟨by simp only; omega, by simp only; omega, fun h => ?_⟩
    simp only [beq_iff_eq] at h
    exact ⟨by simp only; omega, h6⟩
  · rename_i h
    simp only [Bool.and_eq_true, decide_eq_true_eq, not_and] at h
    refine ⟨h1, ?_, fun h => by simp at h⟩
    simp only
    by_cases hl : longM r y = true
    · have := h hl; omega
    · have hne : FI r (y + 1) - FI r y ≠ 13 := fun h => hl (longM_iff.2 h)
      omega
theorem monN_name {r : Lun} {y m0 d : Int} (h1 : 1 ≤ m0) : monN r ⟨y, (nameM r y m0).1, d, (nameM r y m0).2⟩ = FI r y + m0 - 1 := by
  unfold monN nameM
  cases hl : longM r y with
  | false => simp [hl]
  | true =>
    by_cases h : r.l < m0
    · simp only [hl, h, decide_true, Bool.and_self, if_true, Bool.true_and]
      by_cases h2 : m0 = r.l + 1
      · subst h2; simp; omega
      · rw [if_pos (by simp; left; omega)]; omega
    · simp only [hl, h, decide_false, Bool.and_false, Bool.false_eq_true, if_false, Bool.or_false, Bool.and_self]
theorem moon_back {r : Lun} (ok : LunOk r) {day : Int} (d0 : 0 ≤ day) (d1 : day ≤ 999999) : ldayR r (moonI r day) = (day, 0) ∧ nextM (moonI r day) (moonI r (day + 1)) ∧ 0 ≤ (moonI r day).y ∧ ((moonI r day).k = true → (moonI r day).m = r.l) := by
  have h1 := mI_spec ok day
  have h2 := yI_spec ok day
  have h3 := BI_step ok (mI r day)
  have h4 := FI_step ok (yI r day)
  have hm0 := (mI_bd ok d0 (by omega)).1
  have hy0 := (yI_bd ok d0 (by omega)).1
  have hb := BI_ge ok hm0
  have hf := FI_ge ok hy0
  have h1n := mI_is ok (d := day + 1) (n := mI r day)
  have h2n := mI_is ok (d := day + 1) (n := mI r day + 1)
  have hy1 := fun h => yI_is ok (d := day + 1) (y := yI r day) h
  have hy2 := fun h => yI_is ok (d := day + 1) (y := yI r day + 1) h
  have h3b := BI_step ok (mI r day + 1)
  have h4b := FI_step ok (yI r day + 1)
  rw [moonI_eq r day, moonI_eq r (day + 1)]
  generalize mI r day = M at *
  generalize yI r day = Y at *
  obtain ⟨n1, n2, n3⟩ := name_bd ok (y := Y) (m0 := M - FI r Y + 1) (by omega) (by omega)
  have hmn := monN_name (r := r) (y := Y) (m0 := M - FI r Y + 1) (d := day - BI r M + 1) (by omega)
  have hmn2 : FI r Y + (M - FI r Y + 1) - 1 = M := by omega
  rw [hmn2] at hmn
  refine ⟨?_, ?_, hy0, fun h => (n3 h).1⟩
  · have b1 : inB Y 0 4000 = true := inB_iff.2 (by omega)
    have b2 : badL r ⟨Y, (nameM r Y (M - FI r Y + 1)).1, day - BI r M + 1, (nameM r Y (M - FI r Y + 1)).2⟩ = false := by
      unfold badL
      rw [hmn]
      have c1 : inB (nameM r Y (M - FI r Y + 1)).1 1 12 = true := inB_iff.2 ⟨n1, n2⟩
      have c2 : inB (day - BI r M + 1) 1 (BI r (M + 1) - BI r M) = true := inB_iff.2 (by omega)
      simp only [c1, c2, Bool.not_true, Bool.or_false, Bool.false_or]
      cases hk : (nameM r Y (M - FI r Y + 1)).2 with
      | false => rfl
      | true => obtain ⟨q1, q2⟩ := n3 hk; rw [q1, q2]; simp
    unfold ldayR
    simp only [lunB_iff.2 ok, b1, b2, hmn, if_true, Bool.false_eq_true, if_false, show BI r M + (day - BI r M + 1) - 1 = day by omega, inB_iff.2 (show (0 : Int) ≤ day ∧ day ≤ 1000000 by omega)]
  · by_cases c1 : day + 1 < BI r (M + 1)
    · have e1 := h1n (by omega) c1
      have e2 := hy1 (by rw [e1]; exact h2.1) (by rw [e1]; exact h2.2)
      rw [e1, e2]
      exact .inl ⟨by simp only; omega, rfl, rfl, rfl⟩
    · have e1 := h2n (by omega) (by omega)
      by_cases c2 : M + 1 < FI r (Y + 1)
      · have e2 := hy1 (by rw [e1]; omega) (by rw [e1]; exact c2)
        rw [e1, e2]
        unfold nameM
        cases hl : longM r Y with
        | false =>
          simp only [Bool.false_and, Bool.false_eq_true, if_false]
          exact .inr (.inl ⟨by simp only; omega, by simp only; omega, rfl, rfl, by simp only; omega⟩)
        | true =>
          simp only [Bool.true_and, decide_eq_true_eq]
          by_cases g1 : r.l < M - FI r Y + 1
          · rw [if_pos g1, if_pos (by omega)]
            exact .inr (.inl ⟨by simp only; omega, by simp only; omega, rfl, by simp only [beq_eq_false_iff_ne]; omega, by simp only; omega⟩)
          · rw [if_neg g1]
            by_cases g2 : r.l < M + 1 - FI r Y + 1
            · rw [if_pos g2]
              exact .inr (.inr (.inl ⟨by simp only; omega, by simp only; omega, rfl, by simp only [beq_iff_eq]; omega, rfl, by simp only; omega⟩))
            · rw [if_neg g2]
              exact .inr (.inl ⟨by simp only; omega, by simp only; omega, rfl, rfl, by simp only; omega⟩)
      · have e2 := hy2 (by rw [e1]; omega) (by rw [e1]; omega)
        rw [e1, e2]
        have hl5 := ok.l
        have k1 : nameM r (Y + 1) (M + 1 - FI r (Y + 1) + 1) = (1, false) := by
          unfold nameM
          rw [show M + 1 - FI r (Y + 1) + 1 = 1 by omega, if_neg (by simp; omega)]
        have k2 : (nameM r Y (M - FI r Y + 1)).1 = 12 := by
          unfold nameM
          cases hl : longM r Y with
          | false =>
            have hne : FI r (Y + 1) - FI r Y ≠ 13 := fun h => by rw [longM_iff.2 h] at hl; cases hl
            simp; omega
          | true =>
            have := longM_iff.1 hl
            rw [if_pos (by simp; omega)]; simp only; omega
        rw [k1, k2]
        exact .inr (.inr (.inr ⟨by simp only; omega, rfl, rfl, rfl, rfl, by simp only; omega⟩))
end Go.Proofs.Ytfbnllmmoaialaa

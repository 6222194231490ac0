/- almanac: the reference's in, Day, Cycle, Position, Solar. (Printed by a program.) -/
import Derived.Test.YtfbnllmmoaialaaB00Mem
import Derived.Test.YtfbnllmmoaialaaZ21Fb
namespace Go.Proofs.Ytfbnllmmoaialaa
open Go.RowKit

theorem rin_any (n a b : Int) (w : World) : Calls Try.prog 65 #[.int .i64 n, .int .i64 a, .int .i64 b] w fun e w' => e = .returned (.bool (inB n a b)) ∧ w = w' := by
  by_cases h : a ≤ n
  · have h' : decide (a ≤ n) = true := by simpa using h
    by_cases h2 : n ≤ b
    · have h2' : decide (n ≤ b) = true := by simpa using h2
      go_enter Try.func65, Try.ntmps65
      go_wp2
      go_ret
      exact ⟨by simp [inB, h, h2], rfl⟩
    · have h2' : decide (n ≤ b) = false := by simpa using h2
      go_enter Try.func65, Try.ntmps65
      go_wp2
      go_ret
      exact ⟨by simp [inB, h2], rfl⟩
  · have h' : decide (a ≤ n) = false := by simpa using h
    go_enter Try.func65, Try.ntmps65
    go_wp2
    go_ret
    exact ⟨by simp [inB]; omega, rfl⟩
theorem rin_val {n a b : Int} {v : Bool} (h : inB n a b = v) (w : World) : Calls Try.prog 65 #[.int .i64 n, .int .i64 a, .int .i64 b] w fun e w' => e = .returned (.bool v) ∧ w = w' := h ▸ rin_any n a b w
theorem rday_any (n : Int) (w : World) : Calls Try.prog 28 #[.int .i64 n] w fun e w' => e = .returned (.bool (inB n 0 1000000)) ∧ w = w' := by
  go_enter Try.func28, Try.ntmps28
  go_wp2_with (go_at_call 65; refine (rin_any _ _ _ _).mono ?_; rintro _ _ ⟨rfl, rfl⟩)
  go_ret
  exact ⟨rfl, rfl⟩
theorem rcycle_any (l s : Int) (w : World) : Calls Try.prog 27 #[.agg #[.int .i64 l, .int .i64 s]] w fun e w' => e = .returned (.bool (cycB ⟨l, s⟩)) ∧ Below w.heap.size w w' := by
  cases h : inB l 1 64 with
  | true =>
    have hb := inB_iff.1 h
    have HW := Lib.hid (fun W => rin_val h W)
    have HT : Hid (cycB ⟨l, s⟩ = inB s 0 (l - 1)) := (by simp [cycB, h] : cycB ⟨l, s⟩ = inB s 0 (l - 1))
    clear h
    go_enter Try.func27, Try.ntmps27
    go_wp2_with (first | (go_at_call 65; (with_reducible refine (HW.out _).mono ?_); rintro _ _ ⟨rfl, rfl⟩) | (go_at_call 65; refine (rin_any _ _ _ _).mono ?_; rintro _ _ ⟨rfl, rfl⟩))
    go_ret
    exact ⟨ret_bool HT.out.symm, by (repeat (first | exact Below.refl _ _ | assumption | (refine Below.alloc ?_ (by first | omega | (simp; omega) | (simp; done)) _) | (refine Below.setCell ?_ (by first | omega | (simp; omega) | (simp; done)) _) | (refine Below.drew ?_) | (refine belowN ?_ _) | (refine Below.trans ?_ (Below.mono ‹Below _ _ _› (by first | omega | (simp; omega) | (simp; done))))))⟩
  | false =>
    have HW := Lib.hid (fun W => rin_val h W)
    have HT : Hid (cycB ⟨l, s⟩ = false) := (by simp [cycB, h] : cycB ⟨l, s⟩ = false)
    clear h
    go_enter Try.func27, Try.ntmps27
    go_wp2_with (go_at_call 65; (with_reducible refine (HW.out _).mono ?_); rintro _ _ ⟨rfl, rfl⟩)
    go_ret
    exact ⟨ret_bool HT.out.symm, by (repeat (first | exact Below.refl _ _ | assumption | (refine Below.alloc ?_ (by first | omega | (simp; omega) | (simp; done)) _) | (refine Below.setCell ?_ (by first | omega | (simp; omega) | (simp; done)) _) | (refine Below.drew ?_) | (refine belowN ?_ _) | (refine Below.trans ?_ (Below.mono ‹Below _ _ _› (by first | omega | (simp; omega) | (simp; done))))))⟩
theorem rsolar_any (e b u : Int) (w : World) : Calls Try.prog 44 #[.agg #[.int .i64 e, .int .i64 b, .int .i64 u]] w fun en w' => en = .returned (.bool (solB ⟨e, b, u⟩)) ∧ Below w.heap.size w w' := by
  cases h1 : inB e 0 100000 with
  | true =>
    have H1 := Lib.hid (fun W => rin_val h1 W)
    cases h2 : inB b 0 100000 with
    | true =>
      have H2 := Lib.hid (fun W => rin_val h2 W)
      have HT : Hid (solB ⟨e, b, u⟩ = inB u 0 100000) := (by simp [solB, h1, h2] : solB ⟨e, b, u⟩ = _)
      clear h1 h2
      by_cases hbb : b = e
      · subst hbb
        go_enter Try.func44, Try.ntmps44
        go_wp2_with (first | (go_at_call 65; (with_reducible refine (H1.out _).mono ?_); rintro _ _ ⟨rfl, rfl⟩) | (go_at_call 65; (with_reducible refine (H2.out _).mono ?_); rintro _ _ ⟨rfl, rfl⟩) | (go_at_call 65; refine (rin_any _ _ _ _).mono ?_; rintro _ _ ⟨rfl, rfl⟩))
        go_ret
        exact ⟨ret_bool HT.out.symm, by (repeat (first | exact Below.refl _ _ | assumption | (refine Below.alloc ?_ (by first | omega | (simp; omega) | (simp; done)) _) | (refine Below.setCell ?_ (by first | omega | (simp; omega) | (simp; done)) _) | (refine Below.drew ?_) | (refine belowN ?_ _) | (refine Below.trans ?_ (Below.mono ‹Below _ _ _› (by first | omega | (simp; omega) | (simp; done))))))⟩
      · go_enter Try.func44, Try.ntmps44
        go_wp2_with (first | (go_at_call 65; (with_reducible refine (H1.out _).mono ?_); rintro _ _ ⟨rfl, rfl⟩) | (go_at_call 65; (with_reducible refine (H2.out _).mono ?_); rintro _ _ ⟨rfl, rfl⟩) | (go_at_call 65; refine (rin_any _ _ _ _).mono ?_; rintro _ _ ⟨rfl, rfl⟩))
        go_ret
        exact ⟨ret_bool HT.out.symm, by (repeat (first | exact Below.refl _ _ | assumption | (refine Below.alloc ?_ (by first | omega | (simp; omega) | (simp; done)) _) | (refine Below.setCell ?_ (by first | omega | (simp; omega) | (simp; done)) _) | (refine Below.drew ?_) | (refine belowN ?_ _) | (refine Below.trans ?_ (Below.mono ‹Below _ _ _› (by first | omega | (simp; omega) | (simp; done))))))⟩
    | false =>
      have H2 := Lib.hid (fun W => rin_val h2 W)
      have HT : Hid (solB ⟨e, b, u⟩ = false) := (by simp [solB, h1, h2] : solB ⟨e, b, u⟩ = _)
      clear h1 h2
      go_enter Try.func44, Try.ntmps44
      go_wp2_with (first | (go_at_call 65; (with_reducible refine (H1.out _).mono ?_); rintro _ _ ⟨rfl, rfl⟩) | (go_at_call 65; (with_reducible refine (H2.out _).mono ?_); rintro _ _ ⟨rfl, rfl⟩) | (go_at_call 65; refine (rin_any _ _ _ _).mono ?_; rintro _ _ ⟨rfl, rfl⟩))
      go_ret
      exact ⟨ret_bool HT.out.symm, by (repeat (first | exact Below.refl _ _ | assumption | (refine Below.alloc ?_ (by first | omega | (simp; omega) | (simp; done)) _) | (refine Below.setCell ?_ (by first | omega | (simp; omega) | (simp; done)) _) | (refine Below.drew ?_) | (refine belowN ?_ _) | (refine Below.trans ?_ (Below.mono ‹Below _ _ _› (by first | omega | (simp; omega) | (simp; done))))))⟩
  | false =>
    have H1 := Lib.hid (fun W => rin_val h1 W)
    have HT : Hid (solB ⟨e, b, u⟩ = false) := (by simp [solB, h1] : solB ⟨e, b, u⟩ = _)
    clear h1
    go_enter Try.func44, Try.ntmps44
    go_wp2_with (first | (go_at_call 65; (with_reducible refine (H1.out _).mono ?_); rintro _ _ ⟨rfl, rfl⟩) | (go_at_call 65; (with_reducible refine (H2.out _).mono ?_); rintro _ _ ⟨rfl, rfl⟩) | (go_at_call 65; refine (rin_any _ _ _ _).mono ?_; rintro _ _ ⟨rfl, rfl⟩))
    go_ret
    exact ⟨ret_bool HT.out.symm, by (repeat (first | exact Below.refl _ _ | assumption | (refine Below.alloc ?_ (by first | omega | (simp; omega) | (simp; done)) _) | (refine Below.setCell ?_ (by first | omega | (simp; omega) | (simp; done)) _) | (refine Below.drew ?_) | (refine belowN ?_ _) | (refine Below.trans ?_ (Below.mono ‹Below _ _ _› (by first | omega | (simp; omega) | (simp; done))))))⟩
theorem rday_val {n : Int} {v : Bool} (h : inB n 0 1000000 = v) (w : World) : Calls Try.prog 28 #[.int .i64 n] w fun e w' => e = .returned (.bool v) ∧ w = w' := h ▸ rday_any n w
theorem rcycle_val {l s : Int} {v : Bool} (h : cycB ⟨l, s⟩ = v) (w : World) : Calls Try.prog 27 #[.agg #[.int .i64 l, .int .i64 s]] w fun e w' => e = .returned (.bool v) ∧ Below w.heap.size w w' := h ▸ rcycle_any l s w
theorem rsolar_val {e b u : Int} {v : Bool} (h : solB ⟨e, b, u⟩ = v) (w : World) : Calls Try.prog 44 #[.agg #[.int .i64 e, .int .i64 b, .int .i64 u]] w fun en w' => en = .returned (.bool v) ∧ Below w.heap.size w w' := h ▸ rsolar_any e b u w
theorem pos_tmod {l s d : Int} (h : cycB ⟨l, s⟩ = true) (h0 : 0 ≤ d) : (0 ≤ d - s → (d - s).tmod l = posI ⟨l, s⟩ d) ∧ (d - s < 0 → (d - s).tmod l = d - s ∧ d - s + l = posI ⟨l, s⟩ d) := by
  obtain ⟨⟨l1, l2⟩, s1, s2⟩ := cycB_iff.1 h
  simp only at l1 l2 s1 s2
  unfold posI
  simp only
  refine ⟨fun hp => ?_, fun hn => ⟨?_, ?_⟩⟩
  · rw [Int.tmod_eq_emod_of_nonneg hp, Int.add_emod_right]
  · have h1 := Int.neg_tmod (s - d) l
    rw [show -(s - d) = d - s by omega] at h1
    rw [h1, Int.tmod_eq_emod_of_nonneg (by omega), Int.emod_eq_of_lt (by omega) (by omega)]
    omega
  · rw [Int.emod_eq_of_lt (by omega) (by omega)]
theorem posI_bd {c : Cyc} (h : cycB c = true) (d : Int) : 0 ≤ posI c d ∧ posI c d ≤ c.l - 1 := by
  obtain ⟨⟨l1, l2⟩, s1, s2⟩ := cycB_iff.1 h
  have h1 := Int.emod_nonneg (d - c.s + c.l) (show c.l ≠ 0 by omega)
  have h2 := Int.emod_lt_of_pos (d - c.s + c.l) (show 0 < c.l by omega)
  unfold posI
  omega
theorem rposition_any (l s d : Int) (w : World) (h : cycB ⟨l, s⟩ = true) (h0 : 0 ≤ d) (h1 : d ≤ 2000000) : Calls Try.prog 29 #[.agg #[.int .i64 l, .int .i64 s], .int .i64 d] w fun e w' => e = .returned (.int .i64 (posI ⟨l, s⟩ d)) ∧ Below w.heap.size w w' := by
  obtain ⟨⟨l1, l2⟩, s1, s2⟩ := cycB_iff.1 h
  simp only at l1 l2 s1 s2
  obtain ⟨t1, t2⟩ := pos_tmod h h0
  have bd := posI_bd h d
  simp only at bd
  obtain ⟨x, hx⟩ : ∃ x, x = posI ⟨l, s⟩ d := ⟨_, rfl⟩
  rw [← hx] at t1 t2 bd ⊢
  have w1 : IntKind.i64.wrap (d - s) = d - s := IntWalk.i64_in _ ⟨by omega, by omega⟩
  have l0 : (l == 0) = false := by simp; omega
  clear hx h
  by_cases hp : 0 ≤ d - s
  · have e1 := t1 hp
    have e2 : IntKind.i64.wrap ((d - s).tmod l) = x := by rw [e1]; exact IntWalk.i64_in _ ⟨by omega, by omega⟩
    have c1 : decide (0 ≤ x) = true := by simp; omega
    have e5 : (d - s) % l = x := by rw [← e1, Int.tmod_eq_emod_of_nonneg hp]
    clear t1 t2 e2
    go_enter Try.func29, Try.ntmps29
    go_wp2
    go_ret
    exact ⟨rfl, by (repeat (first | exact Below.refl _ _ | assumption | (refine Below.alloc ?_ (by first | omega | (simp; omega) | (simp; done)) _) | (refine Below.setCell ?_ (by first | omega | (simp; omega) | (simp; done)) _) | (refine Below.drew ?_) | (refine belowN ?_ _) | (refine Below.trans ?_ (Below.mono ‹Below _ _ _› (by first | omega | (simp; omega) | (simp; done))))))⟩
  · obtain ⟨e1, e3⟩ := t2 (by omega)
    have e2 : IntKind.i64.wrap ((d - s).tmod l) = d - s := by rw [e1]; exact w1
    have c1 : decide (0 ≤ d - s) = false := by simp; omega
    have e4 : IntKind.i64.wrap (d - s + l) = x := by rw [e3]; exact IntWalk.i64_in _ ⟨by omega, by omega⟩
    have c2 : ¬ (0 ≤ d - s) := hp
    clear t1 t2 e2 e3
    go_enter Try.func29, Try.ntmps29
    go_wp2
    go_ret
    exact ⟨rfl, by (repeat (first | exact Below.refl _ _ | assumption | (refine Below.alloc ?_ (by first | omega | (simp; omega) | (simp; done)) _) | (refine Below.setCell ?_ (by first | omega | (simp; omega) | (simp; done)) _) | (refine Below.drew ?_) | (refine belowN ?_ _) | (refine Below.trans ?_ (Below.mono ‹Below _ _ _› (by first | omega | (simp; omega) | (simp; done))))))⟩
end Go.Proofs.Ytfbnllmmoaialaa
namespace Go.Proofs.Ytfbnllmmoaialaa
open Go.RowKit

/-- the error of a call of Meet, but for that of no day -/
def rmE (cs : List Cyc) (ps : List Int) (d : Int) : Int :=
  if 8 < cs.length then 5 else if cs.all cycB = false then 2 else if ps.length ≠ cs.length then 4 else if posOk (cs.zip ps) = false then 4 else if inB d 0 1000000 = false then 3 else 0
theorem rmE_0 {cs : List Cyc} {ps : List Int} {d : Int} (h : rmE cs ps d = 0) : MeetArgs cs ps d := by
  unfold rmE at h
  split at h
  · cases h
  · split at h
    · cases h
    · split at h
      · cases h
      · split at h
        · cases h
        · split at h
          · cases h
          · rename_i h1 h2 h3 h4 h5
            exact ⟨by omega, by simpa using h2, by omega, by simpa using h4, by simpa using h5⟩
theorem rmE_n0 {cs : List Cyc} {ps : List Int} {d : Int} (h : rmE cs ps d ≠ 0) : meetR cs ps d = (0, 0, rmE cs ps d) := by
  unfold rmE at h ⊢
  unfold meetR
  split
  · rfl
  · split
    · rfl
    · split
      · rfl
      · split
        · rfl
        · split
          · rfl
          · rename_i h1 h2 h3 h4 h5
            rw [if_neg h1, if_neg h2, if_neg h3, if_neg h4, if_neg h5] at h
            exact absurd rfl h
set_option maxRecDepth 100000 in
set_option maxHeartbeats 4000000 in
theorem rmeet_any (A : Option Addr) (c : Nat) (cs : List Cyc) (A2 : Option Addr) (c2 : Nat) (ps : List Int) (d : Int) (w : World) (hl : cs.length ≤ 1000000) (hr : Sl Cyc.cells 2 w w.heap.size A cs) (hr2 : Sl intCell 1 w w.heap.size A2 ps) :
    Calls Try.prog 33 #[.slice A cs.length c, .slice A2 ps.length c2, .int .i64 d] w fun e w' => e = .returned (.int .i64 (rmE cs ps d)) ∧ Below w.heap.size w w' := by
  have HR := Lib.hid hr; have HR2 := Lib.hid hr2
  by_cases h8 : cs.length ≤ 8
  · have d1 : decide (8 < (cs.length : Int)) = false := by simp; omega
    clear hr hr2
    have H8 := Lib.hid h8
    go_enter Try.func33, Try.ntmps33
    go_upto_region 4 with fail
    go_loopw [7] (fun i wr => ∃ k : Nat, k ≤ cs.length ∧ i = .int .i64 k ∧ Hid (∀ c ∈ cs.take k, cycB c = true) ∧ Below w.heap.size w wr) (fun i _ => cs.length - (intOf i).toNat)
    case atStart => exact ⟨0, by omega, rfl, (fun _ h => (by cases h) : ∀ c ∈ cs.take 0, cycB c = true), Below.refl _ _⟩
    case round =>
      obtain ⟨k, hk, rfl, HCY, hb⟩ := hrel
      by_cases hlt : k < cs.length
      · obtain ⟨ab, ao, rfl, hblk, hcell⟩ := (HR.out.below hb).at_ (k := k) (fun _ => rfl) hlt
        have HZ : Hid (cs.take (k + 1) = cs.take k ++ [cs[k]]) := (List.take_succ_eq_append_getElem hlt : _ = _)
        have HMEM := Lib.hid (List.getElem_mem hlt)
        obtain ⟨q, hq⟩ : ∃ q, q = cs[k] := ⟨_, rfl⟩
        rw [← hq] at hcell HZ HMEM
        obtain ⟨ql, qs⟩ := q
        have e0 : wr.cell? ⟨ab, ao + k * 2, none⟩ = some (.int .i64 ql) := hcell 0 _ rfl
        have e1 : wr.cell? ⟨ab, ao + k * 2 + 1, none⟩ = some (.int .i64 qs) := hcell 1 _ rfl
        have k0 : (0 : Int) ≤ (k : Int) := by omega
        have k1 : (k : Int) < (cs.length : Int) := by omega
        clear hcell hq
        cases hcy : cycB ⟨ql, qs⟩ with
        | false =>
          have HC := Lib.hid (fun W => rcycle_val hcy W)
          have HT : Hid (rmE cs ps d = 2) := (by
            unfold rmE
            rw [if_neg (by omega), if_pos]
            exact Bool.eq_false_iff.2 fun h => by
              have h9 := (List.all_eq_true (p := cycB)).1 h _ HMEM.out
              exact absurd (h9.symm.trans hcy) (by decide) : rmE cs ps d = 2)
          clear hcy
          go_wp2_with (go_at_call 27; (with_reducible refine (HC.out _).mono ?_); rintro _ V1 ⟨rfl, hb1⟩)
          refine bodyPost_ret (v := .int .i64 2) (by simp [results, Try.results33, go_sem]) rfl ?_
          rw [HT.out]
          exact ⟨rfl, bl2 hb hb1⟩
        | true =>
          have HC := Lib.hid (fun W => rcycle_val hcy W)
          have HCY2 : Hid (∀ c ∈ cs.take (k + 1), cycB c = true) := (by
            rw [HZ.out]
            intro c hc
            rcases List.mem_append.1 hc with h | h
            · exact HCY.out c h
            · rw [List.mem_singleton.1 h]; exact hcy : ∀ c ∈ cs.take (k + 1), cycB c = true)
          clear hcy
          go_wp2_with (go_at_call 27; (with_reducible refine (HC.out _).mono ?_); rintro _ V1 ⟨rfl, hb1⟩)
          go_roundw
          case rel => exact ⟨k + 1, by omega, by go_num, HCY2, bl2 hb hb1⟩
          case measure => simp [intOf]; omega
      · obtain rfl : k = cs.length := by omega
        have HCA : Hid (∀ c ∈ cs, cycB c = true) := (by have h := HCY.out; rwa [List.take_of_length_le (Nat.le_refl _)] at h : ∀ c ∈ cs, cycB c = true)
        have HALL : Hid (cs.all cycB = true) := (List.all_eq_true.2 HCA.out : cs.all cycB = true)
        clear HCY hk hlt
        by_cases hne : ps.length = cs.length
        · have n1 : ((ps.length : Int) != (cs.length : Int)) = false := by simp [hne]
          have HT0 : Hid (rmE cs ps d = if posOk (cs.zip ps) = false then 4 else if inB d 0 1000000 = false then 3 else 0) := (by unfold rmE; rw [if_neg (by omega), if_neg (by simp [HALL.out]), if_neg (by simp [hne])] : rmE cs ps d = _)
          obtain ⟨pn, hpn⟩ : ∃ n, n = ps.length := ⟨_, rfl⟩
          have HNE : Hid (pn = cs.length) := (by rw [hpn]; exact hne : pn = cs.length)
          rw [← hpn] at n1 ⊢
          have HPN := Lib.hid hpn
          clear hne hpn
          go_upto_region 11 with fail
          go_loopw [8] (fun i wr => ∃ k : Nat, k ≤ cs.length ∧ i = .int .i64 k ∧ Hid (posOk ((cs.zip ps).take k) = true) ∧ Hid (Below w.heap.size w wr)) (fun i _ => cs.length - (intOf i).toNat)
          case atStart => exact ⟨0, by omega, rfl, (rfl : posOk [] = true), hb⟩
          case round =>
            clear hb
            obtain ⟨k, hk, rfl, HOK, hbw⟩ := hrel
            have hb := hbw.out
            clear hbw
            by_cases hlt : k < cs.length
            · obtain ⟨ab, ao, rfl, hblk, hcell⟩ := (HR.out.below hb).at_ (k := k) (fun _ => rfl) hlt
              have hlp : k < ps.length := by have := HNE.out; have := HPN.out; omega
              obtain ⟨pb, po, rfl, hpblk, hpc⟩ := (HR2.out.below hb).int_at (k := k) hlp
              have HZ : Hid ((cs.zip ps).take (k + 1) = (cs.zip ps).take k ++ [(cs[k], ps[k])]) := (by
                have hz : k < (cs.zip ps).length := by simp; omega
                rw [List.take_succ_eq_append_getElem hz]; simp : _ = _)
              have hcy := HCA.out _ (List.getElem_mem hlt)
              obtain ⟨q, hq⟩ : ∃ q, q = cs[k] := ⟨_, rfl⟩
              obtain ⟨x, hx⟩ : ∃ x, x = ps[k] := ⟨_, rfl⟩
              rw [← hq] at hcell HZ hcy
              rw [← hx] at hpc HZ
              obtain ⟨ql, qs⟩ := q
              have e0 : wr.cell? ⟨ab, ao + k * 2, none⟩ = some (.int .i64 ql) := hcell 0 _ rfl
              obtain ⟨⟨l1, l2⟩, -⟩ := cycB_iff.1 hcy
              simp only at l1 l2
              have v1 : IntKind.i64.wrap (ql - 1) = ql - 1 := IntWalk.i64_in _ ⟨by omega, by omega⟩
              have k0 : (0 : Int) ≤ (k : Int) := by omega
              have k1 : (k : Int) < (cs.length : Int) := by omega
              have k2 : (k : Int) < (pn : Int) := by have := HPN.out; omega
              clear hcell hq hx hcy
              go_upto_region 13 with fail
              cases hp : inB x 0 (ql - 1) with
              | false =>
                have HPV := Lib.hid (fun W => rin_val hp W)
                have HT : Hid (rmE cs ps d = 4) := (by
                  rw [HT0.out, if_pos]
                  have hz : posOk ((cs.zip ps).take (k + 1)) = false := by rw [HZ.out]; simp [posOk, hp]
                  cases h9 : posOk (cs.zip ps) with
                  | false => rfl
                  | true =>
                    have : posOk ((cs.zip ps).take (k + 1)) = true := List.all_eq_true.2 fun y hy => List.all_eq_true.1 h9 y (List.mem_of_mem_take hy)
                    exact absurd (hz.symm.trans this) (by decide) : rmE cs ps d = _)
                clear hp HT0
                (refine wp_region_ext (by kernel_rfl) (by kernel_rfl) ?_; (repeat (go_big_quiet_step((go_at_call 65; with_reducible exact Calls.ext_same (HPV.out _))))); with_reducible refine wpQuiet_nil ?_; intro w1 hw1; have hb1 := ext_below hw1; clear hw1)
                go_wp2_with fail
                refine bodyPost_ret (v := .int .i64 4) (by simp [results, Try.results33, go_sem]) rfl ?_
                rw [HT.out]
                exact ⟨rfl, bl2 hb hb1⟩
              | true =>
                have HPV := Lib.hid (fun W => rin_val hp W)
                have HOK2 : Hid (posOk ((cs.zip ps).take (k + 1)) = true) := (by
                  rw [HZ.out]
                  have h1 := HOK.out
                  unfold posOk at h1 ⊢
                  rw [List.all_append, h1]; simp [hp] : posOk ((cs.zip ps).take (k + 1)) = true)
                clear hp
                (refine wp_region_ext (by kernel_rfl) (by kernel_rfl) ?_; (repeat (go_big_quiet_step((go_at_call 65; with_reducible exact Calls.ext_same (HPV.out _))))); with_reducible refine wpQuiet_nil ?_; intro w1 hw1; have hb1 := ext_below hw1; clear hw1)
                go_wp2_with fail
                go_roundw
                case rel => exact ⟨k + 1, by omega, by go_num, HOK2, bl2 hb hb1⟩
                case measure => simp [intOf]; omega
            · obtain rfl : k = cs.length := by omega
              have HPO : Hid (posOk (cs.zip ps) = true) := (by have h := HOK.out; rwa [List.take_of_length_le (by simp; omega)] at h : posOk (cs.zip ps) = true)
              have HT1 : Hid (rmE cs ps d = if inB d 0 1000000 = false then 3 else 0) := (by rw [HT0.out, if_neg (by rw [HPO.out]; decide)] : rmE cs ps d = _)
              clear HT0 HOK hk hlt
              cases hd : inB d 0 1000000 with
              | false =>
                have HDV := Lib.hid (fun W => rday_val hd W)
                have HT : Hid (rmE cs ps d = 3) := (by rw [HT1.out, if_pos hd] : rmE cs ps d = _)
                clear hd HT1
                go_wp2_with (go_at_call 28; refine (HDV.out _).mono ?_; rintro _ _ ⟨rfl, rfl⟩)
                refine bodyPost_ret (v := .int .i64 3) (by simp [results, Try.results33, go_sem]) rfl ?_
                rw [HT.out]
                exact ⟨rfl, hb⟩
              | true =>
                have HDV := Lib.hid (fun W => rday_val hd W)
                have HT : Hid (rmE cs ps d = 0) := (by rw [HT1.out, if_neg (by rw [hd]; decide)] : rmE cs ps d = _)
                clear hd HT1
                go_wp2_with (go_at_call 28; refine (HDV.out _).mono ?_; rintro _ _ ⟨rfl, rfl⟩)
                refine bodyPost_ret (v := .int .i64 0) (by simp [results, Try.results33, go_sem]) rfl ?_
                rw [HT.out]
                exact ⟨rfl, hb⟩
        · have n1 : ((ps.length : Int) != (cs.length : Int)) = true := by simp; omega
          have HT : Hid (rmE cs ps d = 4) := (by unfold rmE; rw [if_neg (by omega), if_neg (by simp [HALL.out]), if_pos hne] : rmE cs ps d = _)
          clear hne
          go_wp2_with fail
          refine bodyPost_ret (v := .int .i64 4) (by simp [results, Try.results33, go_sem]) rfl ?_
          rw [HT.out]
          exact ⟨rfl, hb⟩
  · have d1 : decide (8 < (cs.length : Int)) = true := by simp; omega
    have HT : Hid (rmE cs ps d = 5) := (by unfold rmE; rw [if_pos (by omega)] : rmE cs ps d = _)
    clear hr hr2
    go_enter Try.func33, Try.ntmps33
    go_wp2
    refine bodyPost_ret (v := .int .i64 5) (by simp [results, Try.results33, go_sem]) rfl ?_
    rw [HT.out]
    exact ⟨rfl, Below.refl _ _⟩
/-- a day has some positions -/
def suitsB (cs : List Cyc) (ps : List Int) (d : Int) : Bool := (cs.zip ps).all fun q => posI q.1 d == q.2
theorem suitsB_iff {cs : List Cyc} {ps : List Int} {d : Int} : suitsB cs ps d = true ↔ Stands (cs.zip ps) d := by
  unfold suitsB Stands
  rw [List.all_eq_true]
  exact ⟨fun h q hq => by simpa using h q hq, fun h q hq => by simpa using h q hq⟩
set_option maxRecDepth 100000 in
set_option maxHeartbeats 4000000 in
theorem rsuits_any (A : Option Addr) (c : Nat) (cs : List Cyc) (A2 : Option Addr) (c2 : Nat) (ps : List Int) (d : Int) (w : World) (hl : cs.length ≤ 8) (hc : ∀ c ∈ cs, cycB c = true) (hn : ps.length = cs.length) (h0 : 0 ≤ d) (h1 : d ≤ 2000000) (hr : Sl Cyc.cells 2 w w.heap.size A cs) (hr2 : Sl intCell 1 w w.heap.size A2 ps) :
    Calls Try.prog 35 #[.slice A cs.length c, .slice A2 ps.length c2, .int .i64 d] w fun e w' => e = .returned (.bool (suitsB cs ps d)) ∧ Below w.heap.size w w' := by
  have HR := Lib.hid hr; have HR2 := Lib.hid hr2; have HC := Lib.hid hc
  obtain ⟨pn, hpn⟩ : ∃ n, n = ps.length := ⟨_, rfl⟩
  have HNE : Hid (pn = cs.length) := (by rw [hpn]; exact hn : pn = cs.length)
  rw [← hpn]
  have HPN := Lib.hid hpn
  clear hr hr2 hc hn hpn
  go_enter Try.func35, Try.ntmps35
  go_upto_region 2 with fail
  go_loopw [7] (fun i wr => ∃ k : Nat, k ≤ cs.length ∧ i = .int .i64 k ∧ Hid (suitsB cs ps d = ((cs.zip ps).drop k).all fun q => posI q.1 d == q.2) ∧ Hid (Below w.heap.size w wr)) (fun i _ => cs.length - (intOf i).toNat)
  case atStart => exact ⟨0, by omega, rfl, (rfl : suitsB cs ps d = _), Below.refl _ _⟩
  case round =>
    obtain ⟨k, hk, rfl, HS, hbw⟩ := hrel
    have hb := hbw.out
    clear hbw
    by_cases hlt : k < cs.length
    · obtain ⟨ab, ao, rfl, hblk, hcell⟩ := (HR.out.below hb).at_ (k := k) (fun _ => rfl) hlt
      have hlp : k < ps.length := by have := HNE.out; have := HPN.out; omega
      obtain ⟨pb, po, rfl, hpblk, hpc⟩ := (HR2.out.below hb).int_at (k := k) hlp
      have HZ : Hid ((cs.zip ps).drop k = (cs[k], ps[k]) :: (cs.zip ps).drop (k + 1)) := (by
        have hz : k < (cs.zip ps).length := by simp; omega
        rw [List.drop_eq_getElem_cons hz]; simp : _ = _)
      have hcy := HC.out _ (List.getElem_mem hlt)
      obtain ⟨q, hq⟩ : ∃ q, q = cs[k] := ⟨_, rfl⟩
      obtain ⟨x, hx⟩ : ∃ x, x = ps[k] := ⟨_, rfl⟩
      rw [← hq] at hcell HZ hcy
      rw [← hx] at hpc HZ
      obtain ⟨ql, qs⟩ := q
      have e0 : wr.cell? ⟨ab, ao + k * 2, none⟩ = some (.int .i64 ql) := hcell 0 _ rfl
      have e1 : wr.cell? ⟨ab, ao + k * 2 + 1, none⟩ = some (.int .i64 qs) := hcell 1 _ rfl
      have HP := Lib.hid (fun W => rposition_any ql qs d W hcy h0 h1)
      obtain ⟨y, hy⟩ : ∃ y, y = posI ⟨ql, qs⟩ d := ⟨_, rfl⟩
      rw [← hy] at HP
      have HS2 : Hid (suitsB cs ps d = ((y == x) && ((cs.zip ps).drop (k + 1)).all fun q => posI q.1 d == q.2)) := (by
        rw [HS.out, HZ.out, hy]; rfl : suitsB cs ps d = _)
      have k0 : (0 : Int) ≤ (k : Int) := by omega
      have k1 : (k : Int) < (cs.length : Int) := by omega
      have k2 : (k : Int) < (pn : Int) := by have := HPN.out; omega
      clear hcell hq hx hcy hy
      go_upto_region 4 with fail
      by_cases hyx : y = x
      · have n1 : (y != x) = false := by simpa using hyx
        have HS3 : Hid (suitsB cs ps d = ((cs.zip ps).drop (k + 1)).all fun q => posI q.1 d == q.2) := (by rw [HS2.out, hyx]; simp : suitsB cs ps d = _)
        clear hyx
        (refine wp_region_ext (by kernel_rfl) (by kernel_rfl) ?_; (repeat (go_big_quiet_step((go_at_call 29; with_reducible exact Calls.ext_of (HP.out _))))); with_reducible refine wpQuiet_nil ?_; intro w1 hw1; have hb1 := ext_below hw1; clear hw1)
        go_wp2_with fail
        go_roundw
        case rel => exact ⟨k + 1, by omega, by go_num, HS3, bl2 hb hb1⟩
        case measure => simp [intOf]; omega
      · have n1 : (y != x) = true := by simpa using hyx
        have HT : Hid (suitsB cs ps d = false) := (by rw [HS2.out, show (y == x) = false by simpa using hyx]; rfl : suitsB cs ps d = _)
        clear hyx
        (refine wp_region_ext (by kernel_rfl) (by kernel_rfl) ?_; (repeat (go_big_quiet_step((go_at_call 29; with_reducible exact Calls.ext_of (HP.out _))))); with_reducible refine wpQuiet_nil ?_; intro w1 hw1; have hb1 := ext_below hw1; clear hw1)
        go_wp2_with fail
        go_ret
        exact ⟨ret_bool HT.out.symm, bl2 hb hb1⟩
    · obtain rfl : k = cs.length := by omega
      have HT : Hid (suitsB cs ps d = true) := (by rw [HS.out, List.drop_eq_nil_of_le (by simp; omega)]; rfl : suitsB cs ps d = _)
      go_wp2_with fail
      go_ret
      exact ⟨ret_bool HT.out.symm, hb⟩
/-- the period, cycle by cycle -/
def perP : List Cyc → Int → Int
  | [], n => n
  | c :: l, n => perP l (n * (c.l / gI c.l n))
theorem perP_meet : ∀ (cs : List Cyc) (ps : List Int) (d n D P : Int), ps.length = cs.length → meetL (cs.zip ps) d n = some (D, P) → P = perP cs n
  | [], ps, d, n, D, P, _, h => by simp [meetL] at h; simp [perP, h.2]
  | c :: cs, [], d, n, D, P, hl, h => by simp at hl
  | c :: cs, p :: ps, d, n, D, P, hl, h => by
    simp only [List.zip_cons_cons, meetL] at h
    cases hs : seek c p n c.l.toNat d with
    | none => rw [hs] at h; cases h
    | some e =>
      rw [hs] at h
      exact perP_meet cs ps e _ D P (by simpa using hl) h
theorem dvd_stepI {L P j : Int} (hL : 1 ≤ L) (hP : 0 ≤ P) (hj : 0 ≤ j) : L ∣ P * j ↔ L / gI L P ∣ j := by
  obtain ⟨l, rfl⟩ := Int.eq_ofNat_of_zero_le (show 0 ≤ L by omega)
  obtain ⟨p, rfl⟩ := Int.eq_ofNat_of_zero_le hP
  obtain ⟨k, rfl⟩ := Int.eq_ofNat_of_zero_le hj
  unfold gI
  rw [Int.toNat_natCast, Int.toNat_natCast, ← Int.natCast_mul, Int.natCast_dvd_natCast, ← Int.natCast_ediv, Int.natCast_dvd_natCast]
  exact dvd_step (by omega) k
set_option maxRecDepth 100000 in
set_option maxHeartbeats 4000000 in
theorem rperiod_any (A : Option Addr) (c : Nat) (cs : List Cyc) (w : World) (hl : cs.length ≤ 8) (hc : ∀ c ∈ cs, cycB c = true) (hr : Sl Cyc.cells 2 w w.heap.size A cs) :
    Calls Try.prog 34 #[.slice A cs.length c] w fun e w' => e = .returned (.int .i64 (perP cs 1)) ∧ Below w.heap.size w w' := by
  have HR := Lib.hid hr; have HC := Lib.hid hc
  clear hr hc
  go_enter Try.func34, Try.ntmps34
  go_upto_region 3 with fail
  go_loopw [3, 4, 5] (fun n i _ wr => ∃ (k : Nat) (N : Int), k ≤ cs.length ∧ i = .int .i64 k ∧ n = .int .i64 N ∧ 1 ≤ N ∧ N ≤ 64 ^ k ∧ Hid (perP cs 1 = perP (cs.drop k) N) ∧ Hid (Below w.heap.size w wr)) (fun _ i _ _ => cs.length - (intOf i).toNat)
  case atStart => exact ⟨0, 1, by omega, rfl, rfl, by omega, by simp, (rfl : perP cs 1 = _), Below.refl _ _⟩
  case round =>
    obtain ⟨k, N, hk, rfl, rfl, hN1, hNk, HS, hbw⟩ := hrel
    have hb := hbw.out
    clear hbw
    have hN64 := pow_bd hk hl hNk
    by_cases hlt : k < cs.length
    · obtain ⟨ab, ao, rfl, hblk, hcell⟩ := (HR.out.below hb).at_ (k := k) (fun _ => rfl) hlt
      have HZ : Hid (cs.drop k = cs[k] :: cs.drop (k + 1)) := (List.drop_eq_getElem_cons hlt : _ = _)
      have hcy := HC.out _ (List.getElem_mem hlt)
      obtain ⟨q, hq⟩ : ∃ q, q = cs[k] := ⟨_, rfl⟩
      rw [← hq] at hcell HZ hcy
      obtain ⟨ql, qs⟩ := q
      have e0 : wr.cell? ⟨ab, ao + k * 2, none⟩ = some (.int .i64 ql) := hcell 0 _ rfl
      have hpb := per_bd hcy hN1
      obtain ⟨⟨l1, l2⟩, -⟩ := cycB_iff.1 hcy
      simp only at l1 l2 hpb
      have HDV := Lib.hid (fun j hj => dvd_stepI (L := ql) (P := N) (j := j) l1 (by omega) hj)
      have HS2 : Hid (perP cs 1 = perP (cs.drop (k + 1)) (N * (ql / gI ql N))) := (by rw [HS.out, HZ.out]; rfl : perP cs 1 = _)
      obtain ⟨Q, hQ⟩ : ∃ Q, Q = ql / gI ql N := ⟨_, rfl⟩
      rw [← hQ] at HS2 hpb HDV
      have hPQ : 1 ≤ N * Q ∧ N * Q ≤ 64 ^ (k + 1) := mulpow_bd hN1 hNk hpb.1 hpb.2
      have k0 : (0 : Int) ≤ (k : Int) := by omega
      have k1 : (k : Int) < (cs.length : Int) := by omega
      have l0 : (ql == 0) = false := by simp; omega
      clear hcell hq hcy HS HZ hQ
      go_upto_region 6 with fail
      rename World => W2
      go_loopw [5] (fun m wr => ∃ j : Int, 1 ≤ j ∧ j ≤ Q ∧ m = .int .i64 (N * j) ∧ Hid (Below W2.heap.size W2 wr)) (fun m _ => (N * Q + 1 - intOf m).toNat)
      case atStart => exact ⟨1, by omega, hpb.1, by rw [Int.mul_one], Below.refl _ _⟩
      case round =>
        obtain ⟨j, hj1, hjQ, rfl, hb2⟩ := hrel
        have hb2 := hb2.out
        have hbw := bl2 hb hb2
        have e0 := (hb2.cell (p := ⟨ab, ao + k * 2, none⟩) (by have := hb.size; show ab < W2.heap.size; omega)).trans e0
        have hm := mul_bd (a := N) (b := j) (A := 281474976710656) (B := 64) (by omega) hN64 (by omega) (by omega)
        by_cases hd : ql ∣ N * j
        · have hr0 : (N * j) % ql = 0 := Int.emod_eq_zero_of_dvd hd
          have hjj : j = Q := by
            obtain ⟨t, ht⟩ := (HDV.out j (by omega)).1 hd
            have h1 : 1 ≤ t := by
              rcases Int.lt_or_le t 1 with h | h
              · have := Int.mul_le_mul_of_nonneg_left (show t ≤ 0 by omega) (show 0 ≤ Q by omega); omega
              · exact h
            have := Int.mul_le_mul_of_nonneg_left h1 (show 0 ≤ Q by omega)
            omega
          have HJ := Lib.hid hjj
          clear hd hjj
          go_wp2_with fail
          go_roundw
          case rel => exact ⟨k + 1, N * Q, by omega, by go_num, by rw [HJ.out], hPQ.1, hPQ.2, HS2, hbw⟩
          case measure => simp [intOf]; omega
        · have hr0 : ((N * j) % ql == 0) = false := by simp; exact fun h => hd (Int.dvd_of_emod_eq_zero h)
          have hr1 : ((N * j) % ql != 0) = true := by simp; exact fun h => hd (Int.dvd_of_emod_eq_zero h)
          have hjj : j + 1 ≤ Q := by
            by_cases h : j = Q
            · exact absurd ((HDV.out j (by omega)).2 (by rw [h]; exact Int.dvd_refl _)) hd
            · omega
          have he1 := Int.emod_nonneg (N * j) (show ql ≠ 0 by omega)
          have he2 := Int.emod_lt_of_pos (N * j) (show 0 < ql by omega)
          have v1 : IntKind.i64.wrap (N * j + N) = N * j + N := IntWalk.i64_in _ ⟨by omega, by omega⟩
          have v2 : IntKind.i64.wrap ((N * j) % ql) = (N * j) % ql := IntWalk.i64_in _ ⟨by omega, by omega⟩
          have HMM : Hid (N * j + N = N * (j + 1)) := (by rw [Int.mul_add, Int.mul_one] : _ = _)
          have HLE : Hid (N * (j + 1) ≤ N * Q) := (Int.mul_le_mul_of_nonneg_left hjj (by omega) : _ ≤ _)
          clear hd
          go_wp2_with fail
          go_roundw
          case rel => exact ⟨j + 1, by omega, hjj, by rw [HMM.out], hb2⟩
          case measure => simp only [intOf]; have := HMM.out; have := HLE.out; omega
    · obtain rfl : k = cs.length := by omega
      have HT : Hid (perP cs 1 = N) := (by rw [HS.out, List.drop_eq_nil_of_le (Nat.le_refl _)]; rfl : perP cs 1 = _)
      go_wp2_with fail
      go_ret
      exact ⟨ret_int HT.out.symm, hb⟩
end Go.Proofs.Ytfbnllmmoaialaa

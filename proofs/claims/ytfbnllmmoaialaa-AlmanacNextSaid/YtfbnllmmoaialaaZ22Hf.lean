/- almanac, plain: what the program answers does not hang on addresses. -/
import Derived.Test.YtfbnllmmoaialaaZ21Hc
import Derived.Test.YtfbnllmmoaialaaB00Mem
import Derived.Test.YtfbnllmmoaialaaAi
namespace Go.Proofs.Ytfbnllmmoaialaa
open Go.RowKit

/-- the almanac with other addresses -/
abbrev Alm.at_ (x : Alm) (A : Option Addr) (c : Nat) : Alm := ⟨A, c, x.cycles, x.sol, x.lun⟩
section
variable {x : Alm} {A : Option Addr} {c : Nat} {l l' : List DRl}
theorem len_pl (h : l'.map DRl.pl = l.map DRl.pl) : l'.length = l.length := by
  have := congrArg List.length h
  simpa using this
theorem any_pl {p : DRl → Bool} (hp : ∀ r, p r.pl = p r) (h : l'.map DRl.pl = l.map DRl.pl) : l'.any p = l.any p := by
  have e : ∀ l : List DRl, l.any p = (l.map DRl.pl).any p := fun l => by
    rw [List.any_map]
    congr 1
    funext r
    exact (hp r).symm
  rw [e l', h, ← e l]
theorem chkE_pl (cs : List Cyc) (h : l'.map DRl.pl = l.map DRl.pl) : chkE cs l' = chkE cs l := by
  unfold chkE
  rw [len_pl h, any_pl (fun _ => rfl) h]
theorem bothE_cong (h : l'.map DRl.pl = l.map DRl.pl) : bothE (x.at_ A c) l' = bothE x l := by
  unfold bothE
  rw [show almB (x.at_ A c) = almB x from rfl, chkE_pl _ h]
theorem lastTo_pl {p : DRl → Bool} (hp : ∀ r, p r.pl = p r) : ∀ (l : List DRl) (n : Nat), lastTo p (l.map DRl.pl) n = lastTo p l n
  | l, 0 => rfl
  | l, n + 1 => by
    simp only [lastTo, List.getElem?_map]
    cases l[n]? with
    | none => exact lastTo_pl hp l n
    | some r => simp only [Option.map_some, hp r, lastTo_pl hp l n]
theorem decI_cong (h : l'.map DRl.pl = l.map DRl.pl) (day : Int) : decI (x.at_ A c) l' day = decI x l day := by
  have e : ∀ l : List DRl, decI (x.at_ A c) l day = lastTo (applB x day) l l.length := fun _ => rfl
  have hp : ∀ r, applB x day r.pl = applB x day r := fun _ => rfl
  rw [e, ← lastTo_pl hp l', h, lastTo_pl hp l, len_pl h]
  rfl
theorem get_pl (h : l'.map DRl.pl = l.map DRl.pl) (n : Nat) : (l'[n]?).map DRl.pl = (l[n]?).map DRl.pl := by
  have := congrArg (fun z : List DRl => z[n]?) h
  simpa using this
theorem allowB_cong (h : l'.map DRl.pl = l.map DRl.pl) (day : Int) : allowB (x.at_ A c) l' day = allowB x l day := by
  unfold allowB
  rw [decI_cong h]
  congr 1
  have hg := get_pl h (decI x l day).toNat
  cases h1 : l'[(decI x l day).toNat]? with
  | none =>
    rw [h1] at hg
    cases h2 : l[(decI x l day).toNat]? with
    | none => rfl
    | some r => rw [h2] at hg; simp at hg
  | some r' =>
    rw [h1] at hg
    cases h2 : l[(decI x l day).toNat]? with
    | none => rw [h2] at hg; simp at hg
    | some r =>
      rw [h2] at hg
      simp only [Option.map_some, Option.some.injEq] at hg
      have h3 : r'.pl.allow = r.pl.allow := congrArg DRl.allow hg
      exact h3
theorem allowedR_cong (h : l'.map DRl.pl = l.map DRl.pl) (day : Int) : allowedR (x.at_ A c) l' day = allowedR x l day := by
  unfold allowedR
  rw [bothE_cong h, allowB_cong h, decI_cong h]
theorem spanL_cong (h : l'.map DRl.pl = l.map DRl.pl) (fr to_ : Int) : spanL (x.at_ A c) l' fr to_ = spanL x l fr to_ := by
  have e : ∀ (x : Alm) (l : List DRl), allB x [⟨none, 0, l⟩] = fun day => allowB x l day := fun x l => by funext day; simp [allB]
  unfold spanL daysL daysN
  rw [e, e]
  congr 1
  funext day
  exact allowB_cong h day
theorem nextR_cong (h : l'.map DRl.pl = l.map DRl.pl) (fr to_ : Int) : nextR (x.at_ A c) l' fr to_ = nextR x l fr to_ := by
  unfold nextR
  rw [bothE_cong h, spanL_cong h]
theorem countR_cong (h : l'.map DRl.pl = l.map DRl.pl) (fr to_ : Int) : countR (x.at_ A c) l' fr to_ = countR x l fr to_ := by
  unfold countR
  rw [bothE_cong h, spanL_cong h]
theorem planR_cong (h : l'.map DRl.pl = l.map DRl.pl) (s0 s1 g0 g1 T : Int) : planR (x.at_ A c) l' s0 s1 g0 g1 T = planR x l s0 s1 g0 g1 T := by
  unfold planR
  rw [bothE_cong h, spanL_cong h]
end
/-- what a rules' list that came in says -/
structure RlsIn (W : World) (A : Option Addr) (l : List DRl) : Prop where
  at_ : RlsAt W W.heap.size A l
  nil : ∀ r ∈ l, r.wa = none → r.wc = 0
theorem RlsIn.w {W : World} {A : Option Addr} {l : List DRl} (h : RlsIn W A l) : RlsW W W.heap.size A l := ⟨h.at_.sl, fun r hr => ⟨(h.at_.rul r hr).set, (h.at_.rul r hr).sl, h.nil r hr⟩⟩
end Go.Proofs.Ytfbnllmmoaialaa
namespace Go.Proofs.Ytfbnllmmoaialaa
open Go.RowKit

theorem rin_any (n a b : Int) (w : World) : Calls Try.prog 65 #[.int .i64 n, .int .i64 a, .int .i64 b] w fun e w' => e = .returned (.bool (inB n a b)) ∧ w = w' := by
  by_cases h : a ≤ n
  · have h' : decide (a ≤ n) = true := by simpa using h
    by_cases h2 : n ≤ b
    · have h2' : decide (n ≤ b) = true := by simpa using h2
      go_enter Try.func65, Try.ntmps65
      go_wp2
      go_ret
      exact ⟨by simp [inB, h, h2], rfl⟩
    · have h2' : decide (n ≤ b) = false := by simpa using h2
      go_enter Try.func65, Try.ntmps65
      go_wp2
      go_ret
      exact ⟨by simp [inB, h2], rfl⟩
  · have h' : decide (a ≤ n) = false := by simpa using h
    go_enter Try.func65, Try.ntmps65
    go_wp2
    go_ret
    exact ⟨by simp [inB]; omega, rfl⟩
theorem rin_val {n a b : Int} {v : Bool} (h : inB n a b = v) (w : World) : Calls Try.prog 65 #[.int .i64 n, .int .i64 a, .int .i64 b] w fun e w' => e = .returned (.bool v) ∧ w = w' := h ▸ rin_any n a b w
theorem rday_any (n : Int) (w : World) : Calls Try.prog 28 #[.int .i64 n] w fun e w' => e = .returned (.bool (inB n 0 1000000)) ∧ w = w' := by
  go_enter Try.func28, Try.ntmps28
  go_wp2_with (go_at_call 65; refine (rin_any _ _ _ _).mono ?_; rintro _ _ ⟨rfl, rfl⟩)
  go_ret
  exact ⟨rfl, rfl⟩
theorem rcycle_any (l s : Int) (w : World) : Calls Try.prog 27 #[.agg #[.int .i64 l, .int .i64 s]] w fun e w' => e = .returned (.bool (cycB ⟨l, s⟩)) ∧ Below w.heap.size w w' := by
  cases h : inB l 1 64 with
  | true =>
    have hb := inB_iff.1 h
    have HW := Lib.hid (fun W => rin_val h W)
    have HT : Hid (cycB ⟨l, s⟩ = inB s 0 (l - 1)) := (by simp [cycB, h] : cycB ⟨l, s⟩ = inB s 0 (l - 1))
    clear h
    go_enter Try.func27, Try.ntmps27
    go_wp2_with (first | (go_at_call 65; (with_reducible refine (HW.out _).mono ?_); rintro _ _ ⟨rfl, rfl⟩) | (go_at_call 65; refine (rin_any _ _ _ _).mono ?_; rintro _ _ ⟨rfl, rfl⟩))
    go_ret
    exact ⟨ret_bool HT.out.symm, by (repeat (first | exact Below.refl _ _ | assumption | (refine Below.alloc ?_ (by first | omega | (simp; omega) | (simp; done)) _) | (refine Below.setCell ?_ (by first | omega | (simp; omega) | (simp; done)) _) | (refine Below.drew ?_) | (refine belowN ?_ _) | (refine Below.trans ?_ (Below.mono ‹Below _ _ _› (by first | omega | (simp; omega) | (simp; done))))))⟩
  | false =>
    have HW := Lib.hid (fun W => rin_val h W)
    have HT : Hid (cycB ⟨l, s⟩ = false) := (by simp [cycB, h] : cycB ⟨l, s⟩ = false)
    clear h
    go_enter Try.func27, Try.ntmps27
    go_wp2_with (go_at_call 65; (with_reducible refine (HW.out _).mono ?_); rintro _ _ ⟨rfl, rfl⟩)
    go_ret
    exact ⟨ret_bool HT.out.symm, by (repeat (first | exact Below.refl _ _ | assumption | (refine Below.alloc ?_ (by first | omega | (simp; omega) | (simp; done)) _) | (refine Below.setCell ?_ (by first | omega | (simp; omega) | (simp; done)) _) | (refine Below.drew ?_) | (refine belowN ?_ _) | (refine Below.trans ?_ (Below.mono ‹Below _ _ _› (by first | omega | (simp; omega) | (simp; done))))))⟩
theorem rsolar_any (e b u : Int) (w : World) : Calls Try.prog 44 #[.agg #[.int .i64 e, .int .i64 b, .int .i64 u]] w fun en w' => en = .returned (.bool (solB ⟨e, b, u⟩)) ∧ Below w.heap.size w w' := by
  cases h1 : inB e 0 100000 with
  | true =>
    have H1 := Lib.hid (fun W => rin_val h1 W)
    cases h2 : inB b 0 100000 with
    | true =>
      have H2 := Lib.hid (fun W => rin_val h2 W)
      have HT : Hid (solB ⟨e, b, u⟩ = inB u 0 100000) := (by simp [solB, h1, h2] : solB ⟨e, b, u⟩ = _)
      clear h1 h2
      by_cases hbb : b = e
      · subst hbb
        go_enter Try.func44, Try.ntmps44
        go_wp2_with (first | (go_at_call 65; (with_reducible refine (H1.out _).mono ?_); rintro _ _ ⟨rfl, rfl⟩) | (go_at_call 65; (with_reducible refine (H2.out _).mono ?_); rintro _ _ ⟨rfl, rfl⟩) | (go_at_call 65; refine (rin_any _ _ _ _).mono ?_; rintro _ _ ⟨rfl, rfl⟩))
        go_ret
        exact ⟨ret_bool HT.out.symm, by (repeat (first | exact Below.refl _ _ | assumption | (refine Below.alloc ?_ (by first | omega | (simp; omega) | (simp; done)) _) | (refine Below.setCell ?_ (by first | omega | (simp; omega) | (simp; done)) _) | (refine Below.drew ?_) | (refine belowN ?_ _) | (refine Below.trans ?_ (Below.mono ‹Below _ _ _› (by first | omega | (simp; omega) | (simp; done))))))⟩
      · go_enter Try.func44, Try.ntmps44
        go_wp2_with (first | (go_at_call 65; (with_reducible refine (H1.out _).mono ?_); rintro _ _ ⟨rfl, rfl⟩) | (go_at_call 65; (with_reducible refine (H2.out _).mono ?_); rintro _ _ ⟨rfl, rfl⟩) | (go_at_call 65; refine (rin_any _ _ _ _).mono ?_; rintro _ _ ⟨rfl, rfl⟩))
        go_ret
        exact ⟨ret_bool HT.out.symm, by (repeat (first | exact Below.refl _ _ | assumption | (refine Below.alloc ?_ (by first | omega | (simp; omega) | (simp; done)) _) | (refine Below.setCell ?_ (by first | omega | (simp; omega) | (simp; done)) _) | (refine Below.drew ?_) | (refine belowN ?_ _) | (refine Below.trans ?_ (Below.mono ‹Below _ _ _› (by first | omega | (simp; omega) | (simp; done))))))⟩
    | false =>
      have H2 := Lib.hid (fun W => rin_val h2 W)
      have HT : Hid (solB ⟨e, b, u⟩ = false) := (by simp [solB, h1, h2] : solB ⟨e, b, u⟩ = _)
      clear h1 h2
      go_enter Try.func44, Try.ntmps44
      go_wp2_with (first | (go_at_call 65; (with_reducible refine (H1.out _).mono ?_); rintro _ _ ⟨rfl, rfl⟩) | (go_at_call 65; (with_reducible refine (H2.out _).mono ?_); rintro _ _ ⟨rfl, rfl⟩) | (go_at_call 65; refine (rin_any _ _ _ _).mono ?_; rintro _ _ ⟨rfl, rfl⟩))
      go_ret
      exact ⟨ret_bool HT.out.symm, by (repeat (first | exact Below.refl _ _ | assumption | (refine Below.alloc ?_ (by first | omega | (simp; omega) | (simp; done)) _) | (refine Below.setCell ?_ (by first | omega | (simp; omega) | (simp; done)) _) | (refine Below.drew ?_) | (refine belowN ?_ _) | (refine Below.trans ?_ (Below.mono ‹Below _ _ _› (by first | omega | (simp; omega) | (simp; done))))))⟩
  | false =>
    have H1 := Lib.hid (fun W => rin_val h1 W)
    have HT : Hid (solB ⟨e, b, u⟩ = false) := (by simp [solB, h1] : solB ⟨e, b, u⟩ = _)
    clear h1
    go_enter Try.func44, Try.ntmps44
    go_wp2_with (first | (go_at_call 65; (with_reducible refine (H1.out _).mono ?_); rintro _ _ ⟨rfl, rfl⟩) | (go_at_call 65; (with_reducible refine (H2.out _).mono ?_); rintro _ _ ⟨rfl, rfl⟩) | (go_at_call 65; refine (rin_any _ _ _ _).mono ?_; rintro _ _ ⟨rfl, rfl⟩))
    go_ret
    exact ⟨ret_bool HT.out.symm, by (repeat (first | exact Below.refl _ _ | assumption | (refine Below.alloc ?_ (by first | omega | (simp; omega) | (simp; done)) _) | (refine Below.setCell ?_ (by first | omega | (simp; omega) | (simp; done)) _) | (refine Below.drew ?_) | (refine belowN ?_ _) | (refine Below.trans ?_ (Below.mono ‹Below _ _ _› (by first | omega | (simp; omega) | (simp; done))))))⟩
theorem rday_val {n : Int} {v : Bool} (h : inB n 0 1000000 = v) (w : World) : Calls Try.prog 28 #[.int .i64 n] w fun e w' => e = .returned (.bool v) ∧ w = w' := h ▸ rday_any n w
theorem rcycle_val {l s : Int} {v : Bool} (h : cycB ⟨l, s⟩ = v) (w : World) : Calls Try.prog 27 #[.agg #[.int .i64 l, .int .i64 s]] w fun e w' => e = .returned (.bool v) ∧ Below w.heap.size w w' := h ▸ rcycle_any l s w
theorem rsolar_val {e b u : Int} {v : Bool} (h : solB ⟨e, b, u⟩ = v) (w : World) : Calls Try.prog 44 #[.agg #[.int .i64 e, .int .i64 b, .int .i64 u]] w fun en w' => en = .returned (.bool v) ∧ Below w.heap.size w w' := h ▸ rsolar_any e b u w
theorem pos_tmod {l s d : Int} (h : cycB ⟨l, s⟩ = true) (h0 : 0 ≤ d) : (0 ≤ d - s → (d - s).tmod l = posI ⟨l, s⟩ d) ∧ (d - s < 0 → (d - s).tmod l = d - s ∧ d - s + l = posI ⟨l, s⟩ d) := by
  obtain ⟨⟨l1, l2⟩, s1, s2⟩ := cycB_iff.1 h
  simp only at l1 l2 s1 s2
  unfold posI
  simp only
  refine ⟨fun hp => ?_, fun hn => ⟨?_, ?_⟩⟩
  · rw [Int.tmod_eq_emod_of_nonneg hp, Int.add_emod_right]
  · have h1 := Int.neg_tmod (s - d) l
    rw [show -(s - d) = d - s by omega] at h1
    rw [h1, Int.tmod_eq_emod_of_nonneg (by omega), Int.emod_eq_of_lt (by omega) (by omega)]
    omega
  · rw [Int.emod_eq_of_lt (by omega) (by omega)]
theorem posI_bd {c : Cyc} (h : cycB c = true) (d : Int) : 0 ≤ posI c d ∧ posI c d ≤ c.l - 1 := by
  obtain ⟨⟨l1, l2⟩, s1, s2⟩ := cycB_iff.1 h
  have h1 := Int.emod_nonneg (d - c.s + c.l) (show c.l ≠ 0 by omega)
  have h2 := Int.emod_lt_of_pos (d - c.s + c.l) (show 0 < c.l by omega)
  unfold posI
  omega
theorem rposition_any (l s d : Int) (w : World) (h : cycB ⟨l, s⟩ = true) (h0 : 0 ≤ d) (h1 : d ≤ 2000000) : Calls Try.prog 29 #[.agg #[.int .i64 l, .int .i64 s], .int .i64 d] w fun e w' => e = .returned (.int .i64 (posI ⟨l, s⟩ d)) ∧ Below w.heap.size w w' := by
  obtain ⟨⟨l1, l2⟩, s1, s2⟩ := cycB_iff.1 h
  simp only at l1 l2 s1 s2
  obtain ⟨t1, t2⟩ := pos_tmod h h0
  have bd := posI_bd h d
  simp only at bd
  obtain ⟨x, hx⟩ : ∃ x, x = posI ⟨l, s⟩ d := ⟨_, rfl⟩
  rw [← hx] at t1 t2 bd ⊢
  have w1 : IntKind.i64.wrap (d - s) = d - s := IntWalk.i64_in _ ⟨by omega, by omega⟩
  have l0 : (l == 0) = false := by simp; omega
  clear hx h
  by_cases hp : 0 ≤ d - s
  · have e1 := t1 hp
    have e2 : IntKind.i64.wrap ((d - s).tmod l) = x := by rw [e1]; exact IntWalk.i64_in _ ⟨by omega, by omega⟩
    have c1 : decide (0 ≤ x) = true := by simp; omega
    have e5 : (d - s) % l = x := by rw [← e1, Int.tmod_eq_emod_of_nonneg hp]
    clear t1 t2 e2
    go_enter Try.func29, Try.ntmps29
    go_wp2
    go_ret
    exact ⟨rfl, by (repeat (first | exact Below.refl _ _ | assumption | (refine Below.alloc ?_ (by first | omega | (simp; omega) | (simp; done)) _) | (refine Below.setCell ?_ (by first | omega | (simp; omega) | (simp; done)) _) | (refine Below.drew ?_) | (refine belowN ?_ _) | (refine Below.trans ?_ (Below.mono ‹Below _ _ _› (by first | omega | (simp; omega) | (simp; done))))))⟩
  · obtain ⟨e1, e3⟩ := t2 (by omega)
    have e2 : IntKind.i64.wrap ((d - s).tmod l) = d - s := by rw [e1]; exact w1
    have c1 : decide (0 ≤ d - s) = false := by simp; omega
    have e4 : IntKind.i64.wrap (d - s + l) = x := by rw [e3]; exact IntWalk.i64_in _ ⟨by omega, by omega⟩
    have c2 : ¬ (0 ≤ d - s) := hp
    clear t1 t2 e2 e3
    go_enter Try.func29, Try.ntmps29
    go_wp2
    go_ret
    exact ⟨rfl, by (repeat (first | exact Below.refl _ _ | assumption | (refine Below.alloc ?_ (by first | omega | (simp; omega) | (simp; done)) _) | (refine Below.setCell ?_ (by first | omega | (simp; omega) | (simp; done)) _) | (refine Below.drew ?_) | (refine belowN ?_ _) | (refine Below.trans ?_ (Below.mono ‹Below _ _ _› (by first | omega | (simp; omega) | (simp; done))))))⟩
end Go.Proofs.Ytfbnllmmoaialaa
namespace Go.Proofs.Ytfbnllmmoaialaa
open Go.RowKit

set_option maxRecDepth 100000 in
set_option maxHeartbeats 4000000 in
theorem rlunar_any (d p f m y s l : Int) (w : World) : Calls Try.prog 49 #[.agg #[.int .i64 d, .int .i64 p, .int .i64 f, .int .i64 m, .int .i64 y, .int .i64 s, .int .i64 l]] w fun en w' => en = .returned (.bool (lunB ⟨d, p, f, m, y, s, l⟩)) ∧ Below w.heap.size w w' := by
  cases h1 : inB p 1 100000 with
  | false =>
    have H1 := Lib.hid (fun W => rin_val h1 W)
    have HT : Hid (lunB ⟨d, p, f, m, y, s, l⟩ = false) := (by simp [lunB, h1] : lunB ⟨d, p, f, m, y, s, l⟩ = false)
    clear h1
    go_enter Try.func49, Try.ntmps49
    go_wp2_with (first | (go_at_call 65; (with_reducible refine (H1.out _).mono ?_); rintro _ _ ⟨rfl, rfl⟩) | (go_at_call 65; (with_reducible refine (H2.out _).mono ?_); rintro _ _ ⟨rfl, rfl⟩) | (go_at_call 65; (with_reducible refine (H3.out _).mono ?_); rintro _ _ ⟨rfl, rfl⟩) | (go_at_call 65; (with_reducible refine (H4.out _).mono ?_); rintro _ _ ⟨rfl, rfl⟩) | (go_at_call 65; (with_reducible refine (H5.out _).mono ?_); rintro _ _ ⟨rfl, rfl⟩) | (go_at_call 65; (with_reducible refine (H6.out _).mono ?_); rintro _ _ ⟨rfl, rfl⟩) | (go_at_call 65; (with_reducible refine (H7.out _).mono ?_); rintro _ _ ⟨rfl, rfl⟩))
    go_ret
    exact ⟨ret_bool HT.out.symm, by (repeat (first | exact Below.refl _ _ | assumption | (refine Below.alloc ?_ (by first | omega | (simp; omega) | (simp; done)) _) | (refine Below.setCell ?_ (by first | omega | (simp; omega) | (simp; done)) _) | (refine Below.drew ?_) | (refine belowN ?_ _) | (refine Below.trans ?_ (Below.mono ‹Below _ _ _› (by first | omega | (simp; omega) | (simp; done))))))⟩
  | true =>
    have H1 := Lib.hid (fun W => rin_val h1 W)
    have b1 := inB_iff.1 h1
    cases h2 : inB d (27 * p) (31 * p) with
    | false =>
      have H2 := Lib.hid (fun W => rin_val h2 W)
      have HT : Hid (lunB ⟨d, p, f, m, y, s, l⟩ = false) := (by simp [lunB, h1, h2] : lunB ⟨d, p, f, m, y, s, l⟩ = false)
      clear h1 h2
      go_enter Try.func49, Try.ntmps49
      go_wp2_with (first | (go_at_call 65; (with_reducible refine (H1.out _).mono ?_); rintro _ _ ⟨rfl, rfl⟩) | (go_at_call 65; (with_reducible refine (H2.out _).mono ?_); rintro _ _ ⟨rfl, rfl⟩) | (go_at_call 65; (with_reducible refine (H3.out _).mono ?_); rintro _ _ ⟨rfl, rfl⟩) | (go_at_call 65; (with_reducible refine (H4.out _).mono ?_); rintro _ _ ⟨rfl, rfl⟩) | (go_at_call 65; (with_reducible refine (H5.out _).mono ?_); rintro _ _ ⟨rfl, rfl⟩) | (go_at_call 65; (with_reducible refine (H6.out _).mono ?_); rintro _ _ ⟨rfl, rfl⟩) | (go_at_call 65; (with_reducible refine (H7.out _).mono ?_); rintro _ _ ⟨rfl, rfl⟩))
      go_ret
      exact ⟨ret_bool HT.out.symm, by (repeat (first | exact Below.refl _ _ | assumption | (refine Below.alloc ?_ (by first | omega | (simp; omega) | (simp; done)) _) | (refine Below.setCell ?_ (by first | omega | (simp; omega) | (simp; done)) _) | (refine Below.drew ?_) | (refine belowN ?_ _) | (refine Below.trans ?_ (Below.mono ‹Below _ _ _› (by first | omega | (simp; omega) | (simp; done))))))⟩
    | true =>
      have H2 := Lib.hid (fun W => rin_val h2 W)
      cases h3 : inB f 0 (p - 1) with
      | false =>
        have H3 := Lib.hid (fun W => rin_val h3 W)
        have HT : Hid (lunB ⟨d, p, f, m, y, s, l⟩ = false) := (by simp [lunB, h1, h2, h3] : lunB ⟨d, p, f, m, y, s, l⟩ = false)
        clear h1 h2 h3
        go_enter Try.func49, Try.ntmps49
        go_wp2_with (first | (go_at_call 65; (with_reducible refine (H1.out _).mono ?_); rintro _ _ ⟨rfl, rfl⟩) | (go_at_call 65; (with_reducible refine (H2.out _).mono ?_); rintro _ _ ⟨rfl, rfl⟩) | (go_at_call 65; (with_reducible refine (H3.out _).mono ?_); rintro _ _ ⟨rfl, rfl⟩) | (go_at_call 65; (with_reducible refine (H4.out _).mono ?_); rintro _ _ ⟨rfl, rfl⟩) | (go_at_call 65; (with_reducible refine (H5.out _).mono ?_); rintro _ _ ⟨rfl, rfl⟩) | (go_at_call 65; (with_reducible refine (H6.out _).mono ?_); rintro _ _ ⟨rfl, rfl⟩) | (go_at_call 65; (with_reducible refine (H7.out _).mono ?_); rintro _ _ ⟨rfl, rfl⟩))
        go_ret
        exact ⟨ret_bool HT.out.symm, by (repeat (first | exact Below.refl _ _ | assumption | (refine Below.alloc ?_ (by first | omega | (simp; omega) | (simp; done)) _) | (refine Below.setCell ?_ (by first | omega | (simp; omega) | (simp; done)) _) | (refine Below.drew ?_) | (refine belowN ?_ _) | (refine Below.trans ?_ (Below.mono ‹Below _ _ _› (by first | omega | (simp; omega) | (simp; done))))))⟩
      | true =>
        have H3 := Lib.hid (fun W => rin_val h3 W)
        cases h4 : inB y 1 100000 with
        | false =>
          have H4 := Lib.hid (fun W => rin_val h4 W)
          have HT : Hid (lunB ⟨d, p, f, m, y, s, l⟩ = false) := (by simp [lunB, h1, h2, h3, h4] : lunB ⟨d, p, f, m, y, s, l⟩ = false)
          clear h1 h2 h3 h4
          go_enter Try.func49, Try.ntmps49
          go_wp2_with (first | (go_at_call 65; (with_reducible refine (H1.out _).mono ?_); rintro _ _ ⟨rfl, rfl⟩) | (go_at_call 65; (with_reducible refine (H2.out _).mono ?_); rintro _ _ ⟨rfl, rfl⟩) | (go_at_call 65; (with_reducible refine (H3.out _).mono ?_); rintro _ _ ⟨rfl, rfl⟩) | (go_at_call 65; (with_reducible refine (H4.out _).mono ?_); rintro _ _ ⟨rfl, rfl⟩) | (go_at_call 65; (with_reducible refine (H5.out _).mono ?_); rintro _ _ ⟨rfl, rfl⟩) | (go_at_call 65; (with_reducible refine (H6.out _).mono ?_); rintro _ _ ⟨rfl, rfl⟩) | (go_at_call 65; (with_reducible refine (H7.out _).mono ?_); rintro _ _ ⟨rfl, rfl⟩))
          go_ret
          exact ⟨ret_bool HT.out.symm, by (repeat (first | exact Below.refl _ _ | assumption | (refine Below.alloc ?_ (by first | omega | (simp; omega) | (simp; done)) _) | (refine Below.setCell ?_ (by first | omega | (simp; omega) | (simp; done)) _) | (refine Below.drew ?_) | (refine belowN ?_ _) | (refine Below.trans ?_ (Below.mono ‹Below _ _ _› (by first | omega | (simp; omega) | (simp; done))))))⟩
        | true =>
          have H4 := Lib.hid (fun W => rin_val h4 W)
          have b4 := inB_iff.1 h4
          cases h5 : inB m (12 * y) (13 * y) with
          | false =>
            have H5 := Lib.hid (fun W => rin_val h5 W)
            have HT : Hid (lunB ⟨d, p, f, m, y, s, l⟩ = false) := (by simp [lunB, h1, h2, h3, h4, h5] : lunB ⟨d, p, f, m, y, s, l⟩ = false)
            clear h1 h2 h3 h4 h5
            go_enter Try.func49, Try.ntmps49
            go_wp2_with (first | (go_at_call 65; (with_reducible refine (H1.out _).mono ?_); rintro _ _ ⟨rfl, rfl⟩) | (go_at_call 65; (with_reducible refine (H2.out _).mono ?_); rintro _ _ ⟨rfl, rfl⟩) | (go_at_call 65; (with_reducible refine (H3.out _).mono ?_); rintro _ _ ⟨rfl, rfl⟩) | (go_at_call 65; (with_reducible refine (H4.out _).mono ?_); rintro _ _ ⟨rfl, rfl⟩) | (go_at_call 65; (with_reducible refine (H5.out _).mono ?_); rintro _ _ ⟨rfl, rfl⟩) | (go_at_call 65; (with_reducible refine (H6.out _).mono ?_); rintro _ _ ⟨rfl, rfl⟩) | (go_at_call 65; (with_reducible refine (H7.out _).mono ?_); rintro _ _ ⟨rfl, rfl⟩))
            go_ret
            exact ⟨ret_bool HT.out.symm, by (repeat (first | exact Below.refl _ _ | assumption | (refine Below.alloc ?_ (by first | omega | (simp; omega) | (simp; done)) _) | (refine Below.setCell ?_ (by first | omega | (simp; omega) | (simp; done)) _) | (refine Below.drew ?_) | (refine belowN ?_ _) | (refine Below.trans ?_ (Below.mono ‹Below _ _ _› (by first | omega | (simp; omega) | (simp; done))))))⟩
          | true =>
            have H5 := Lib.hid (fun W => rin_val h5 W)
            cases h6 : inB s 0 (y - 1) with
            | false =>
              have H6 := Lib.hid (fun W => rin_val h6 W)
              have HT : Hid (lunB ⟨d, p, f, m, y, s, l⟩ = false) := (by simp [lunB, h1, h2, h3, h4, h5, h6] : lunB ⟨d, p, f, m, y, s, l⟩ = false)
              clear h1 h2 h3 h4 h5 h6
              go_enter Try.func49, Try.ntmps49
              go_wp2_with (first | (go_at_call 65; (with_reducible refine (H1.out _).mono ?_); rintro _ _ ⟨rfl, rfl⟩) | (go_at_call 65; (with_reducible refine (H2.out _).mono ?_); rintro _ _ ⟨rfl, rfl⟩) | (go_at_call 65; (with_reducible refine (H3.out _).mono ?_); rintro _ _ ⟨rfl, rfl⟩) | (go_at_call 65; (with_reducible refine (H4.out _).mono ?_); rintro _ _ ⟨rfl, rfl⟩) | (go_at_call 65; (with_reducible refine (H5.out _).mono ?_); rintro _ _ ⟨rfl, rfl⟩) | (go_at_call 65; (with_reducible refine (H6.out _).mono ?_); rintro _ _ ⟨rfl, rfl⟩) | (go_at_call 65; (with_reducible refine (H7.out _).mono ?_); rintro _ _ ⟨rfl, rfl⟩))
              go_ret
              exact ⟨ret_bool HT.out.symm, by (repeat (first | exact Below.refl _ _ | assumption | (refine Below.alloc ?_ (by first | omega | (simp; omega) | (simp; done)) _) | (refine Below.setCell ?_ (by first | omega | (simp; omega) | (simp; done)) _) | (refine Below.drew ?_) | (refine belowN ?_ _) | (refine Below.trans ?_ (Below.mono ‹Below _ _ _› (by first | omega | (simp; omega) | (simp; done))))))⟩
            | true =>
              have H6 := Lib.hid (fun W => rin_val h6 W)
              cases h7 : inB l 1 12 with
              | false =>
                have H7 := Lib.hid (fun W => rin_val h7 W)
                have HT : Hid (lunB ⟨d, p, f, m, y, s, l⟩ = false) := (by simp [lunB, h1, h2, h3, h4, h5, h6, h7] : lunB ⟨d, p, f, m, y, s, l⟩ = false)
                clear h1 h2 h3 h4 h5 h6 h7
                go_enter Try.func49, Try.ntmps49
                go_wp2_with (first | (go_at_call 65; (with_reducible refine (H1.out _).mono ?_); rintro _ _ ⟨rfl, rfl⟩) | (go_at_call 65; (with_reducible refine (H2.out _).mono ?_); rintro _ _ ⟨rfl, rfl⟩) | (go_at_call 65; (with_reducible refine (H3.out _).mono ?_); rintro _ _ ⟨rfl, rfl⟩) | (go_at_call 65; (with_reducible refine (H4.out _).mono ?_); rintro _ _ ⟨rfl, rfl⟩) | (go_at_call 65; (with_reducible refine (H5.out _).mono ?_); rintro _ _ ⟨rfl, rfl⟩) | (go_at_call 65; (with_reducible refine (H6.out _).mono ?_); rintro _ _ ⟨rfl, rfl⟩) | (go_at_call 65; (with_reducible refine (H7.out _).mono ?_); rintro _ _ ⟨rfl, rfl⟩))
                go_ret
                exact ⟨ret_bool HT.out.symm, by (repeat (first | exact Below.refl _ _ | assumption | (refine Below.alloc ?_ (by first | omega | (simp; omega) | (simp; done)) _) | (refine Below.setCell ?_ (by first | omega | (simp; omega) | (simp; done)) _) | (refine Below.drew ?_) | (refine belowN ?_ _) | (refine Below.trans ?_ (Below.mono ‹Below _ _ _› (by first | omega | (simp; omega) | (simp; done))))))⟩
              | true =>
                have H7 := Lib.hid (fun W => rin_val h7 W)
                have HT : Hid (lunB ⟨d, p, f, m, y, s, l⟩ = true) := (by simp [lunB, h1, h2, h3, h4, h5, h6, h7] : lunB ⟨d, p, f, m, y, s, l⟩ = true)
                clear h1 h2 h3 h4 h5 h6 h7
                go_enter Try.func49, Try.ntmps49
                go_wp2_with (first | (go_at_call 65; (with_reducible refine (H1.out _).mono ?_); rintro _ _ ⟨rfl, rfl⟩) | (go_at_call 65; (with_reducible refine (H2.out _).mono ?_); rintro _ _ ⟨rfl, rfl⟩) | (go_at_call 65; (with_reducible refine (H3.out _).mono ?_); rintro _ _ ⟨rfl, rfl⟩) | (go_at_call 65; (with_reducible refine (H4.out _).mono ?_); rintro _ _ ⟨rfl, rfl⟩) | (go_at_call 65; (with_reducible refine (H5.out _).mono ?_); rintro _ _ ⟨rfl, rfl⟩) | (go_at_call 65; (with_reducible refine (H6.out _).mono ?_); rintro _ _ ⟨rfl, rfl⟩) | (go_at_call 65; (with_reducible refine (H7.out _).mono ?_); rintro _ _ ⟨rfl, rfl⟩))
                go_ret
                exact ⟨ret_bool HT.out.symm, by (repeat (first | exact Below.refl _ _ | assumption | (refine Below.alloc ?_ (by first | omega | (simp; omega) | (simp; done)) _) | (refine Below.setCell ?_ (by first | omega | (simp; omega) | (simp; done)) _) | (refine Below.drew ?_) | (refine belowN ?_ _) | (refine Below.trans ?_ (Below.mono ‹Below _ _ _› (by first | omega | (simp; omega) | (simp; done))))))⟩
theorem rlunar_val {d p f m y s l : Int} {v : Bool} (h : lunB ⟨d, p, f, m, y, s, l⟩ = v) (w : World) : Calls Try.prog 49 #[.agg #[.int .i64 d, .int .i64 p, .int .i64 f, .int .i64 m, .int .i64 y, .int .i64 s, .int .i64 l]] w fun en w' => en = .returned (.bool v) ∧ Below w.heap.size w w' := h ▸ rlunar_any d p f m y s l w
theorem rbegins_any (d p f m y s l n : Int) (w : World) (ok : LunOk ⟨d, p, f, m, y, s, l⟩) (n0 : 0 ≤ n) (n1 : n ≤ 3000000) : Calls Try.prog 88 #[.agg #[.int .i64 d, .int .i64 p, .int .i64 f, .int .i64 m, .int .i64 y, .int .i64 s, .int .i64 l], .int .i64 n] w fun en w' => en = .returned (.int .i64 (BI ⟨d, p, f, m, y, s, l⟩ n)) ∧ Below w.heap.size w w' := by
  obtain ⟨⟨b0, b1⟩, b2, b3⟩ := BI_bd ok n0 n1
  obtain ⟨⟨p0, p1⟩, ⟨d0, d1⟩, ⟨f0, f1⟩, ⟨y0, y1⟩, ⟨m0, m1⟩, ⟨s0, s1⟩, -⟩ := ok
  simp only at p0 p1 d0 d1 f0 f1 y0 y1 m0 m1 s0 s1 b0 b1
  have hd : BI ⟨d, p, f, m, y, s, l⟩ n = (d * n + f) / p := rfl
  obtain ⟨x, hx⟩ : ∃ x, x = BI ⟨d, p, f, m, y, s, l⟩ n := ⟨_, rfl⟩
  rw [← hx] at hd b2 b3 ⊢
  have w1 : IntKind.i64.wrap (d * n) = d * n := IntWalk.i64_in _ ⟨by omega, by omega⟩
  have w2 : IntKind.i64.wrap (d * n + f) = d * n + f := IntWalk.i64_in _ ⟨by omega, by omega⟩
  have w3 : IntKind.i64.wrap ((d * n + f).tdiv p) = x := by rw [Int.tdiv_eq_ediv_of_nonneg (by omega), ← hd]; exact IntWalk.i64_in _ ⟨by omega, by omega⟩
  have z0 : (p == 0) = false := by simp; omega
  clear hd hx
  go_enter Try.func88, Try.ntmps88
  go_wp2
  go_ret
  exact ⟨rfl, by (repeat (first | exact Below.refl _ _ | assumption | (refine Below.alloc ?_ (by first | omega | (simp; omega) | (simp; done)) _) | (refine Below.setCell ?_ (by first | omega | (simp; omega) | (simp; done)) _) | (refine Below.drew ?_) | (refine belowN ?_ _) | (refine Below.trans ?_ (Below.mono ‹Below _ _ _› (by first | omega | (simp; omega) | (simp; done))))))⟩
theorem rfirst_any (d p f m y s l n : Int) (w : World) (ok : LunOk ⟨d, p, f, m, y, s, l⟩) (n0 : 0 ≤ n) (n1 : n ≤ 3000000) : Calls Try.prog 87 #[.agg #[.int .i64 d, .int .i64 p, .int .i64 f, .int .i64 m, .int .i64 y, .int .i64 s, .int .i64 l], .int .i64 n] w fun en w' => en = .returned (.int .i64 (FI ⟨d, p, f, m, y, s, l⟩ n)) ∧ Below w.heap.size w w' := by
  obtain ⟨⟨b0, b1⟩, b2, b3⟩ := FI_bd ok n0 n1
  obtain ⟨⟨p0, p1⟩, ⟨d0, d1⟩, ⟨f0, f1⟩, ⟨y0, y1⟩, ⟨m0, m1⟩, ⟨s0, s1⟩, -⟩ := ok
  simp only at p0 p1 d0 d1 f0 f1 y0 y1 m0 m1 s0 s1 b0 b1
  have hd : FI ⟨d, p, f, m, y, s, l⟩ n = (m * n + s) / y := rfl
  obtain ⟨x, hx⟩ : ∃ x, x = FI ⟨d, p, f, m, y, s, l⟩ n := ⟨_, rfl⟩
  rw [← hx] at hd b2 b3 ⊢
  have w1 : IntKind.i64.wrap (m * n) = m * n := IntWalk.i64_in _ ⟨by omega, by omega⟩
  have w2 : IntKind.i64.wrap (m * n + s) = m * n + s := IntWalk.i64_in _ ⟨by omega, by omega⟩
  have w3 : IntKind.i64.wrap ((m * n + s).tdiv y) = x := by rw [Int.tdiv_eq_ediv_of_nonneg (by omega), ← hd]; exact IntWalk.i64_in _ ⟨by omega, by omega⟩
  have z0 : (y == 0) = false := by simp; omega
  clear hd hx
  go_enter Try.func87, Try.ntmps87
  go_wp2
  go_ret
  exact ⟨rfl, by (repeat (first | exact Below.refl _ _ | assumption | (refine Below.alloc ?_ (by first | omega | (simp; omega) | (simp; done)) _) | (refine Below.setCell ?_ (by first | omega | (simp; omega) | (simp; done)) _) | (refine Below.drew ?_) | (refine belowN ?_ _) | (refine Below.trans ?_ (Below.mono ‹Below _ _ _› (by first | omega | (simp; omega) | (simp; done))))))⟩
end Go.Proofs.Ytfbnllmmoaialaa
